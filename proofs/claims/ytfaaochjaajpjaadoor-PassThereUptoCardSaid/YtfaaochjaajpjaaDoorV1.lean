import Derived.Test.YtfaaochjaajpjaaDoorMP
import Derived.Test.YtfaaochjaajpjaaDoorSzA
import Derived.Test.YtfaaochjaajpjaaDoorProg
namespace Go.Sx
open Go.RowKit Go.Proofs
set_option linter.unusedVariables false
set_option linter.unusedSimpArgs false
set_option maxRecDepth 20000
theorem ph_go5 : IsGo Tryd.prog 5 := ⟨⟨Tryd.f5, _, Tryd.func5, rfl, by kernel_rfl⟩⟩
theorem ph_go7 : IsGo Tryd.prog 7 := ⟨⟨Tryd.f7, _, Tryd.func7, rfl, by kernel_rfl⟩⟩
theorem ph_go9 : IsGo Tryd.prog 9 := ⟨⟨Tryd.f9, _, Tryd.func9, rfl, by kernel_rfl⟩⟩
theorem ph_go10 : IsGo Tryd.prog 10 := ⟨⟨Tryd.f10, _, Tryd.func10, rfl, by kernel_rfl⟩⟩
theorem ph_go11 : IsGo Tryd.prog 11 := ⟨⟨Tryd.f11, _, Tryd.func11, rfl, by kernel_rfl⟩⟩
theorem ph_go12 : IsGo Tryd.prog 12 := ⟨⟨Tryd.f12, _, Tryd.func12, rfl, by kernel_rfl⟩⟩
theorem ph_go13 : IsGo Tryd.prog 13 := ⟨⟨Tryd.f13, _, Tryd.func13, rfl, by kernel_rfl⟩⟩
theorem ph_go14 : IsGo Tryd.prog 14 := ⟨⟨Tryd.f14, _, Tryd.func14, rfl, by kernel_rfl⟩⟩
theorem ph_go15 : IsGo Tryd.prog 15 := ⟨⟨Tryd.f15, _, Tryd.func15, rfl, by kernel_rfl⟩⟩
theorem ph_go18 : IsGo Tryd.prog 18 := ⟨⟨Tryd.f18, _, Tryd.func18, rfl, by kernel_rfl⟩⟩
theorem ph_go19 : IsGo Tryd.prog 19 := ⟨⟨Tryd.f19, _, Tryd.func19, rfl, by kernel_rfl⟩⟩
theorem ph_go20 : IsGo Tryd.prog 20 := ⟨⟨Tryd.f20, _, Tryd.func20, rfl, by kernel_rfl⟩⟩
theorem ph_go21 : IsGo Tryd.prog 21 := ⟨⟨Tryd.f21, _, Tryd.func21, rfl, by kernel_rfl⟩⟩
theorem ph_go22 : IsGo Tryd.prog 22 := ⟨⟨Tryd.f22, _, Tryd.func22, rfl, by kernel_rfl⟩⟩
theorem ph_go23 : IsGo Tryd.prog 23 := ⟨⟨Tryd.f23, _, Tryd.func23, rfl, by kernel_rfl⟩⟩
theorem ph_go30 : IsGo Tryd.prog 30 := ⟨⟨Tryd.f30, _, Tryd.func30, rfl, by kernel_rfl⟩⟩
theorem ph_go31 : IsGo Tryd.prog 31 := ⟨⟨Tryd.f31, _, Tryd.func31, rfl, by kernel_rfl⟩⟩
theorem ph_go32 : IsGo Tryd.prog 32 := ⟨⟨Tryd.f32, _, Tryd.func32, rfl, by kernel_rfl⟩⟩
theorem ph_go34 : IsGo Tryd.prog 34 := ⟨⟨Tryd.f34, _, Tryd.func34, rfl, by kernel_rfl⟩⟩
theorem ph_go35 : IsGo Tryd.prog 35 := ⟨⟨Tryd.f35, _, Tryd.func35, rfl, by kernel_rfl⟩⟩
theorem ph_go36 : IsGo Tryd.prog 36 := ⟨⟨Tryd.f36, _, Tryd.func36, rfl, by kernel_rfl⟩⟩
theorem ph_go39 : IsGo Tryd.prog 39 := ⟨⟨Tryd.f39, _, Tryd.func39, rfl, by kernel_rfl⟩⟩
theorem ph_go40 : IsGo Tryd.prog 40 := ⟨⟨Tryd.f40, _, Tryd.func40, rfl, by kernel_rfl⟩⟩
theorem ph_go42 : IsGo Tryd.prog 42 := ⟨⟨Tryd.f42, _, Tryd.func42, rfl, by kernel_rfl⟩⟩
theorem ph_go43 : IsGo Tryd.prog 43 := ⟨⟨Tryd.f43, _, Tryd.func43, rfl, by kernel_rfl⟩⟩
open Go.Shelf in
def ph_lays171_ren : Go.Shelf.Ren := ⟨fun | 171 => 14 | 243 => 33 | 246 => 41 | 283 => 44 | 284 => 45 | 285 => 46 | 286 => 47 | 129 => 50 | 317 => 49 | 318 => 51 | 319 => 52 | 320 => 53 | 337 => 54 | 338 => 55 | n => n, fun | 3 => 3 | 9 => 9 | 2 => 2 | 4 => 4 | 171 => 80 | 0 => 0 | 53 => 45 | 37 => 24 | 5 => 5 | 173 => 82 | 212 => 86 | 51 => 67 | 20 => 20 | 213 => 87 | 46 => 68 | 232 => 91 | 233 => 92 | n => n, fun | 17 => 0 | 18 => 2 | 19 => 3 | n => n⟩
open Go.Shelf in
theorem ph_lays171 : Go.Proofs.LaysM.n171 Tryd.prog ph_lays171_ren := {
  mixed := by kernel_rfl
  f129 := Tryd.func50.trans (congrArg some (by kernel_rfl))
  f171 := Tryd.func14.trans (congrArg some (by kernel_rfl))
  f243 := Tryd.func33.trans (congrArg some (by kernel_rfl))
  f246 := Tryd.func41.trans (congrArg some (by kernel_rfl))
  f283 := Tryd.func44.trans (congrArg some (by kernel_rfl))
  f284 := Tryd.func45.trans (congrArg some (by kernel_rfl))
  f285 := Tryd.func46.trans (congrArg some (by kernel_rfl))
  f286 := Tryd.func47.trans (congrArg some (by kernel_rfl))
  f317 := Tryd.func49.trans (congrArg some (by kernel_rfl))
  f318 := Tryd.func51.trans (congrArg some (by kernel_rfl))
  f319 := Tryd.func52.trans (congrArg some (by kernel_rfl))
  f320 := Tryd.func53.trans (congrArg some (by kernel_rfl))
  f337 := Tryd.func54.trans (congrArg some (by kernel_rfl))
  f338 := Tryd.func55.trans (congrArg some (by kernel_rfl))
  t0 := Tryd.underlying0
  a0 := Tryd.isAgg0
  z0 := Tryd.sizeOf0
  v0 := Tryd.zeroValue0
  t2 := Tryd.underlying2
  a2 := Tryd.isAgg2
  z2 := Tryd.sizeOf2
  v2 := Tryd.zeroValue2
  t3 := Tryd.underlying3
  a3 := Tryd.isAgg3
  z3 := Tryd.sizeOf3
  v3 := Tryd.zeroValue3
  t4 := Tryd.underlying4
  a4 := Tryd.isAgg4
  z4 := Tryd.sizeOf4
  v4 := Tryd.zeroValue4
  t5 := Tryd.underlying5
  a5 := Tryd.isAgg5
  z5 := Tryd.sizeOf5
  v5 := Tryd.zeroValue5
  t9 := Tryd.underlying9
  a9 := Tryd.isAgg9
  z9 := Tryd.sizeOf9
  v9 := Tryd.zeroValue9
  t20 := Tryd.underlying20
  a20 := Tryd.isAgg20
  z20 := Tryd.sizeOf20
  v20 := Tryd.zeroValue20
  t37 := Tryd.underlying24
  a37 := Tryd.isAgg24
  z37 := Tryd.sizeOf24
  v37 := Tryd.zeroValue24
  t46 := Tryd.underlying68
  a46 := Tryd.isAgg68
  z46 := Tryd.sizeOf68
  v46 := Tryd.zeroValue68
  t51 := Tryd.underlying67
  a51 := Tryd.isAgg67
  z51 := Tryd.sizeOf67
  v51 := Tryd.zeroValue67
  t53 := Tryd.underlying45
  a53 := Tryd.isAgg45
  z53 := Tryd.sizeOf45
  v53 := Tryd.zeroValue45
  t171 := Tryd.underlying80
  a171 := Tryd.isAgg80
  z171 := Tryd.sizeOf80
  v171 := Tryd.zeroValue80
  t173 := Tryd.underlying82
  a173 := Tryd.isAgg82
  z173 := Tryd.sizeOf82
  v173 := Tryd.zeroValue82
  t212 := Tryd.underlying86
  a212 := Tryd.isAgg86
  z212 := Tryd.sizeOf86
  v212 := Tryd.zeroValue86
  t213 := Tryd.underlying87
  a213 := Tryd.isAgg87
  z213 := Tryd.sizeOf87
  t232 := Tryd.underlying91
  a232 := Tryd.isAgg91
  z232 := Tryd.sizeOf91
  v232 := Tryd.zeroValue91
  t233 := Tryd.underlying92
  a233 := Tryd.isAgg92
  z233 := Tryd.sizeOf92
  v233 := Tryd.zeroValue92
  g17 := by kernel_rfl
  g18 := by kernel_rfl
  g19 := by kernel_rfl
  i0 := by kernel_rfl
  i2 := by kernel_rfl
  i3 := by kernel_rfl
  i4 := by kernel_rfl
  i5 := by kernel_rfl
  i9 := by kernel_rfl
  i20 := by kernel_rfl
  i37 := by kernel_rfl
  i46 := by kernel_rfl
  i51 := by kernel_rfl
  i53 := by kernel_rfl
  i171 := by kernel_rfl
  i173 := by kernel_rfl
  i212 := by kernel_rfl
  i232 := by kernel_rfl
  i233 := by kernel_rfl
  m17 := by kernel_rfl
  m18 := by kernel_rfl
  m19 := by kernel_rfl }
theorem ph_itoa14 {F O : Nat → Prop} {w0 w : World} {hs : List HP} (k : Cx F O w0 w hs) {n : Int} (hn : -9223372036854775808 ≤ n ∧ n ≤ 9223372036854775807) (hT : TabF Tryd.prog F w0) : Calls Tryd.prog 14 (vals [I n]) w (fun e w' => e = .returned (SV.val (.s (Lib.itoa n))) ∧ Cx F O w0 w' hs) := c_itoa ph_lays171 k hn (hT.cx k)
theorem ph_ix48 : IsIx Tryd.prog 48 := ⟨⟨Tryd.f48, Tryd.func48, by kernel_rfl, by kernel_rfl, by kernel_rfl, by kernel_rfl⟩⟩
theorem ph_tf24 : TF Tryd.prog 24 5 [.int .u8 0] 1 := ⟨by kernel_rfl, by kernel_rfl, by decide, by decide⟩
theorem ph_tf76 : TF Tryd.prog 76 79 [.int .i64 0, .int .i64 0, .int .i64 0] 24 := ⟨by kernel_rfl, by kernel_rfl, by decide, by decide⟩
theorem ph_mixed : Tryd.prog.follows .mixedOrders = true := by kernel_rfl

-- (*quern/pass.pen).lit
theorem c_pass_pen_lit {F O : Nat → Prop} {w : World} (p_s : List UInt8) (p_at : Int) (p_ok : Bool) (t : List UInt8) (g_p : Nat) (k : Cx F O w w [Bx 48 g_p [.s p_s, I p_at, .b p_ok]]) (r : (List UInt8 × Int × Bool)) (hm : m_pass_pen_lit p_s p_at p_ok t = some r) :
    Calls Tryd.prog 18 (vals [pt g_p 0, .s t]) w (fun e w' => e = .returned (SV.val (.tup [])) ∧ Cx F O w w' [Bx 48 g_p [.s r.1, I r.2.1, .b r.2.2]]) := by
 unfold m_pass_pen_lit at hm
 refine calls [pt g_p 0, .s t] Tryd.func18 rfl (of_decide_eq_true (by kernel_rfl)) ?_
 refine W_seq <| W_q [] (.n 4 (I 0) .a) qe (by kernel_rfl) ?_
 refine At_go <| W_block <| W_lp (m_pass_pen_lit_l0 p_s p_ok t) (fun s L wr => ∃ (p : Int) (i : Int), (p, i) = s ∧ L = [(0, pt g_p 0), (1, .s t), (4, I i)] ∧ Cx F O w wr [Bx 48 g_p [.s p_s, I p, .b p_ok]]) (p_at, (0 : Int)) r hm ⟨p_at, (0 : Int), rfl, rfl, k⟩ (by kernel_rfl) ?_
 intro s0_ L_ w_ y0 hrel hstep hr0
 obtain ⟨p, i, rfl, rfl, k_⟩ := hrel
 have hm := hstep; simp only [m_pass_pen_lit_l0] at hm
 clear hstep
 refine W_seq <| W_seq <| W_q [] (.n 14 (.b ((decide (i < (t.length : Int))) && p_ok)) .a) (qp ((decide (i < (t.length : Int))) = true → (some ⟨g_p, 0, none⟩ : Option Addr).isSome = true) (fun hg0 => rfl) <| qp ((decide (i < (t.length : Int))) = true → (some ⟨g_p, 0, none⟩ : Option Addr).isSome = true) (fun hg0 => rfl) <| qo (.b p_ok) <| qc (fun w => (decide (i < (t.length : Int))) = true → ∃ a, (some ⟨g_p, 2, none⟩ : Option Addr) = some a ∧ w.cell? a = some (SV.val (.b p_ok))) (fun hg0 => k_.bld 0 rfl 2 (.b p_ok) (by kernel_rfl)) <| qe) (by kernel_rfl) ?_
 refine At_go <| W_cond ((decide (i < (t.length : Int))) && p_ok) (by kernel_rfl) (fun hc => ?_) (fun hc => ?_)
 · rw [if_pos hc] at hm
   refine W_skip <| At_go <| W_seq <| W_block <| W_seq <| W_seq ?_
   obtain ⟨c, h_c, hm⟩ := ob hm
   obtain ⟨c1, h_c1, hm⟩ := ob hm
   refine W_d ph_mixed (by kernel_rfl) (.n 41 (.b ((decide ((p_s.length : Int) ≤ p)) || (decide (c ≠ c1)))) (.s .a)) (fun m => qs g_p 0 <| qs g_p 0 <| qB (k_.drew m) 0 rfl 1 (I p) (by kernel_rfl) <| qs g_p 0 <| qs g_p 0 <| qB (k_.drew m) 0 rfl 0 (.s p_s) (by kernel_rfl) <| qp ((decide ((p_s.length : Int) ≤ p)) = false → (some ⟨g_p, 0, none⟩ : Option Addr).isSome = true) (fun hg0 => rfl) <| qp ((decide ((p_s.length : Int) ≤ p)) = false → (some ⟨g_p, 0, none⟩ : Option Addr).isSome = true) (fun hg0 => rfl) <| qo (.s p_s) <| qc (fun w => (decide ((p_s.length : Int) ≤ p)) = false → ∃ a, (some ⟨g_p, 0, none⟩ : Option Addr) = some a ∧ w.cell? a = some (SV.val (.s p_s))) (fun hg0 => (k_.drew m).bld 0 rfl 0 (.s p_s) (by kernel_rfl)) <| qp ((decide ((p_s.length : Int) ≤ p)) = false → (some ⟨g_p, 0, none⟩ : Option Addr).isSome = true) (fun hg0 => rfl) <| qp ((decide ((p_s.length : Int) ≤ p)) = false → (some ⟨g_p, 0, none⟩ : Option Addr).isSome = true) (fun hg0 => rfl) <| qo (I p) <| qc (fun w => (decide ((p_s.length : Int) ≤ p)) = false → ∃ a, (some ⟨g_p, 1, none⟩ : Option Addr) = some a ∧ w.cell? a = some (SV.val (I p))) (fun hg0 => (k_.drew m).bld 0 rfl 1 (I p) (by kernel_rfl)) <| qo (.u8 c) <| qp ((decide ((p_s.length : Int) ≤ p)) = false → 0 ≤ p ∧ p_s[Int.toNat p]? = some c) (fun hg0 => geti_some (gif_not h_c hg0)) <| qo (.u8 c1) <| qp ((decide ((p_s.length : Int) ≤ p)) = false → 0 ≤ i ∧ t[Int.toNat i]? = some c1) (fun hg0 => geti_some (gif_not h_c1 hg0)) <| qe) (by kernel_rfl) (fun m_ => ?_)
   have k_1 := k_.drew m_
   refine At_go <| W_cond ((decide ((p_s.length : Int) ≤ p)) || (decide (c ≠ c1))) (by kernel_rfl) (fun hc1 => ?_) (fun hc1 => ?_)
   · rw [if_pos hc1] at hm
     refine W_seq <| W_reg <| WLs 3 [] (.n 44 (pt g_p 2) .z) (qs g_p 0 <| qs g_p 0 <| qe) (by kernel_rfl) ?_
     refine WL_op <| Op_b [] 0 (.b false) [.b false] (Pt.at g_p 2) k_1 rfl (.kk .h) (by kernel_rfl) (by kernel_rfl) ?_
     intro w_1 k_2
     refine WL_nil <| At_go <| W_ret (At_tr (At_ir (At_tr (At_tr (At_ir ?_)))))
     have hm := exit_of hm hr0
     obtain rfl := Option.some.inj hm
     refine At_rt [] qe (by kernel_rfl) ?_
     exact ⟨rfl, k_2⟩
   rw [if_neg (by rw [hc1]; decide)] at hm
   refine W_skip <| At_go <| W_reg <| WLs 7 [] (.n 49 (I (w64 (p + 1))) (.n 51 (pt g_p 1) (.s .a))) (qs g_p 0 <| qs g_p 0 <| qB k_1 0 rfl 1 (I p) (by kernel_rfl) <| qs g_p 0 <| qs g_p 0 <| qe) (by kernel_rfl) ?_
   refine WL_op <| Op_b [] 0 (I (w64 (p + 1))) [I (w64 (p + 1))] (Pt.at g_p 1) k_1 rfl (.k .h) (by kernel_rfl) (by kernel_rfl) ?_
   intro w_2 k_3
   refine WL_nil <| At_in <| At_go <| W_q [] (.n 4 (I (w64 (i + 1))) (.ss (.kk .z))) qe (by kernel_rfl) ?_
   exact At_rd (w64 (p + 1), w64 (i + 1)) (Option.some.inj hm).symm ⟨w64 (p + 1), w64 (i + 1), rfl, rfl, k_3⟩ (by kernel_rfl)
 rw [if_neg (by rw [hc]; decide)] at hm
 refine W_exit (At_te (At_te (At_ie ?_)))
 have hm := exit_of hm hr0
 obtain rfl := Option.some.inj hm
 refine At_en [] qe (by kernel_rfl) ?_
 exact ⟨rfl, k_⟩

-- internal/stringslite.HasPrefix
theorem c_internal_stringslite_HasPrefix {F O : Nat → Prop} {w : World} (s_ : List UInt8) (prefix_ : List UInt8) (k : Cx F O w w []) (r : Bool) (hm : m_internal_stringslite_HasPrefix s_ prefix_ = some r) :
    Calls Tryd.prog 34 (vals [.s s_, .s prefix_]) w (fun e w' => e = .returned (SV.val (.b r)) ∧ Cx F O w w' []) := by
 unfold m_internal_stringslite_HasPrefix at hm
 refine calls [.s s_, .s prefix_] Tryd.func34 rfl (of_decide_eq_true (by kernel_rfl)) ?_
 refine W_seq <| W_q [] .a qe (by kernel_rfl) ?_
 refine At_go <| W_seq ?_
 obtain ⟨s_1, h_s_1, hm⟩ := ob hm
 refine W_q [] (.n 4 (.b ((decide ((prefix_.length : Int) ≤ (s_.length : Int))) && (decide (s_1 = prefix_)))) .z) (qp ((decide ((prefix_.length : Int) ≤ (s_.length : Int))) = true → 0 ≤ (prefix_.length : Int) ∧ (prefix_.length : Int) ≤ ((s_.length : Nat) : Int)) (fun hg0 => by have hs := slc_some (gif_some h_s_1 hg0); omega) <| qo (.s s_1) <| qp ((decide ((prefix_.length : Int) ≤ (s_.length : Int))) = true → (s_.take (Int.toNat (prefix_.length : Int))).drop 0 = s_1) (fun hg0 => (slc_some (gif_some h_s_1 hg0)).2.2.2.symm) <| qe) (by kernel_rfl) ?_
 refine At_go <| W_ret ?_
 obtain rfl := Option.some.inj hm
 refine At_rt [.b ((decide ((prefix_.length : Int) ≤ (s_.length : Int))) && (decide (s_1 = prefix_)))] qe (by kernel_rfl) ?_
 exact ⟨rfl, k⟩

-- strings.HasPrefix
theorem c_strings_HasPrefix {F O : Nat → Prop} {w : World} (s_ : List UInt8) (prefix_ : List UInt8) (k : Cx F O w w []) (r : Bool) (hm : m_strings_HasPrefix s_ prefix_ = some r) :
    Calls Tryd.prog 19 (vals [.s s_, .s prefix_]) w (fun e w' => e = .returned (SV.val (.b r)) ∧ Cx F O w w' []) := by
 unfold m_strings_HasPrefix at hm
 refine calls [.s s_, .s prefix_] Tryd.func19 rfl (of_decide_eq_true (by kernel_rfl)) ?_
 refine W_seq <| W_q [] .a qe (by kernel_rfl) ?_
 refine At_go <| W_seq <| W_reg <| WLs 2 [] (.n 5 (.s s_) (.n 6 (.s prefix_) .z)) qe (by kernel_rfl) ?_
 refine WL_op ?_
 obtain ⟨r_, h_r_, hm⟩ := ob hm
 refine Op_call [] 7 _ ph_go34 (by kernel_rfl) (c_internal_stringslite_HasPrefix (F := N0) (O := N0) _ _ (Cx.refl _) _ h_r_) ?_
 rintro e_ w_ ⟨rfl, k_⟩
 have k_1 := k.call k_
 refine ⟨.b r_, rfl, ?_⟩
 refine WLs 1 [] (.n 4 (.b r_) .z) qe (by kernel_rfl) ?_
 refine WL_nil <| At_go <| W_ret ?_
 obtain rfl := Option.some.inj hm
 refine At_rt [.b r_] qe (by kernel_rfl) ?_
 exact ⟨rfl, k_1⟩

-- (*quern/pass.pen).number
theorem c_pass_pen_number {F O : Nat → Prop} {w : World} (p_s : List UInt8) (p_at : Int) (p_ok : Bool) (g_p : Nat) (k : Cx F O w w [Bx 48 g_p [.s p_s, I p_at, .b p_ok]]) (r : (UInt64 × List UInt8 × Int × Bool)) (hm : m_pass_pen_number p_s p_at p_ok = some r) :
    Calls Tryd.prog 21 (vals [pt g_p 0]) w (fun e w' => e = .returned (SV.val (.u64 r.1)) ∧ Cx F O w w' [Bx 48 g_p [.s r.2.1, I r.2.2.1, .b r.2.2.2]]) := by
 unfold m_pass_pen_number at hm
 refine calls [pt g_p 0] Tryd.func21 rfl (of_decide_eq_true (by kernel_rfl)) ?_
 refine W_seq <| W_q [] .a qe (by kernel_rfl) ?_
 refine At_go <| W_seq <| W_q [] (.n 3 (.u64 0) .a) qe (by kernel_rfl) ?_
 refine At_go <| W_seq <| W_seq <| W_q [] (.n 10 (.b (!p_ok)) .a) (qs g_p 0 <| qs g_p 0 <| qB k 0 rfl 2 (.b p_ok) (by kernel_rfl) <| qe) (by kernel_rfl) ?_
 refine At_go <| W_cond (!p_ok) (by kernel_rfl) (fun hc => ?_) (fun hc => ?_)
 · rw [if_pos hc] at hm
   refine W_seq <| W_q [] (.n 2 (.u64 0) .z) qe (by kernel_rfl) ?_
   refine At_go <| W_ret (At_tr ?_)
   obtain rfl := Option.some.inj hm
   refine At_rt [.u64 0] qe (by kernel_rfl) ?_
   exact ⟨rfl, k⟩
 rw [if_neg (by rw [hc]; decide)] at hm
 refine W_skip <| At_go <| W_seq <| W_q [] (.n 4 (I p_at) (.s .a)) (qs g_p 0 <| qs g_p 0 <| qB k 0 rfl 1 (I p_at) (by kernel_rfl) <| qe) (by kernel_rfl) ?_
 refine At_go <| W_seq <| W_block <| W_lp (m_pass_pen_number_l0 p_s p_at) (fun s L wr => ∃ (p : Int) (v : UInt64), (p, v) = s ∧ L = [(0, pt g_p 0), (3, .u64 v), (4, I p_at)] ∧ Cx F O w wr [Bx 48 g_p [.s p_s, I p, .b p_ok]]) (p_at, (0 : UInt64)) r hm ⟨p_at, (0 : UInt64), rfl, rfl, k⟩ (by kernel_rfl) ?_
 intro s0_ L_ w_ y0 hrel hstep hr0
 obtain ⟨p, v, rfl, rfl, k_⟩ := hrel
 have hm := hstep; simp only [m_pass_pen_number_l0] at hm
 clear hstep
 refine W_seq <| W_seq ?_
 obtain ⟨c, h_c, hm⟩ := ob hm
 obtain ⟨c1, h_c1, hm⟩ := ob hm
 refine W_d ph_mixed (by kernel_rfl) (.n 48 (.b (((decide (p < (p_s.length : Int))) && (decide ((48 : UInt8) ≤ c))) && (decide (c1 ≤ 57)))) .a) (fun m => qs g_p 0 <| qs g_p 0 <| qB (k_.drew m) 0 rfl 1 (I p) (by kernel_rfl) <| qs g_p 0 <| qs g_p 0 <| qB (k_.drew m) 0 rfl 0 (.s p_s) (by kernel_rfl) <| qp ((decide (p < (p_s.length : Int))) = true → (some ⟨g_p, 0, none⟩ : Option Addr).isSome = true) (fun hg0 => rfl) <| qp ((decide (p < (p_s.length : Int))) = true → (some ⟨g_p, 0, none⟩ : Option Addr).isSome = true) (fun hg0 => rfl) <| qo (.s p_s) <| qc (fun w => (decide (p < (p_s.length : Int))) = true → ∃ a, (some ⟨g_p, 0, none⟩ : Option Addr) = some a ∧ w.cell? a = some (SV.val (.s p_s))) (fun hg0 => (k_.drew m).bld 0 rfl 0 (.s p_s) (by kernel_rfl)) <| qp ((decide (p < (p_s.length : Int))) = true → (some ⟨g_p, 0, none⟩ : Option Addr).isSome = true) (fun hg0 => rfl) <| qp ((decide (p < (p_s.length : Int))) = true → (some ⟨g_p, 0, none⟩ : Option Addr).isSome = true) (fun hg0 => rfl) <| qo (I p) <| qc (fun w => (decide (p < (p_s.length : Int))) = true → ∃ a, (some ⟨g_p, 1, none⟩ : Option Addr) = some a ∧ w.cell? a = some (SV.val (I p))) (fun hg0 => (k_.drew m).bld 0 rfl 1 (I p) (by kernel_rfl)) <| qo (.u8 c) <| qp ((decide (p < (p_s.length : Int))) = true → 0 ≤ p ∧ p_s[Int.toNat p]? = some c) (fun hg0 => geti_some (gif_some h_c hg0)) <| qp (((decide (p < (p_s.length : Int))) && (decide ((48 : UInt8) ≤ c))) = true → (some ⟨g_p, 0, none⟩ : Option Addr).isSome = true) (fun hg0 => rfl) <| qp (((decide (p < (p_s.length : Int))) && (decide ((48 : UInt8) ≤ c))) = true → (some ⟨g_p, 0, none⟩ : Option Addr).isSome = true) (fun hg0 => rfl) <| qo (.s p_s) <| qc (fun w => ((decide (p < (p_s.length : Int))) && (decide ((48 : UInt8) ≤ c))) = true → ∃ a, (some ⟨g_p, 0, none⟩ : Option Addr) = some a ∧ w.cell? a = some (SV.val (.s p_s))) (fun hg0 => (k_.drew m).bld 0 rfl 0 (.s p_s) (by kernel_rfl)) <| qp (((decide (p < (p_s.length : Int))) && (decide ((48 : UInt8) ≤ c))) = true → (some ⟨g_p, 0, none⟩ : Option Addr).isSome = true) (fun hg0 => rfl) <| qp (((decide (p < (p_s.length : Int))) && (decide ((48 : UInt8) ≤ c))) = true → (some ⟨g_p, 0, none⟩ : Option Addr).isSome = true) (fun hg0 => rfl) <| qo (I p) <| qc (fun w => ((decide (p < (p_s.length : Int))) && (decide ((48 : UInt8) ≤ c))) = true → ∃ a, (some ⟨g_p, 1, none⟩ : Option Addr) = some a ∧ w.cell? a = some (SV.val (I p))) (fun hg0 => (k_.drew m).bld 0 rfl 1 (I p) (by kernel_rfl)) <| qo (.u8 c1) <| qp (((decide (p < (p_s.length : Int))) && (decide ((48 : UInt8) ≤ c))) = true → 0 ≤ p ∧ p_s[Int.toNat p]? = some c1) (fun hg0 => geti_some (gif_some h_c1 hg0)) <| qe) (by kernel_rfl) (fun m_ => ?_)
 have k_1 := k_.drew m_
 refine At_go <| W_cond (((decide (p < (p_s.length : Int))) && (decide ((48 : UInt8) ≤ c))) && (decide (c1 ≤ 57))) (by kernel_rfl) (fun hc1 => ?_) (fun hc1 => ?_)
 · rw [if_pos hc1] at hm
   refine W_skip <| At_go <| W_block <| W_seq ?_
   obtain ⟨c2, h_c2, hm⟩ := ob hm
   refine W_d ph_mixed (by kernel_rfl) (.n 5 (.u64 (UInt64.ofNat (c2 - 48).toNat)) (.s .a)) (fun m => qs g_p 0 <| qs g_p 0 <| qB (k_1.drew m) 0 rfl 0 (.s p_s) (by kernel_rfl) <| qs g_p 0 <| qs g_p 0 <| qB (k_1.drew m) 0 rfl 1 (I p) (by kernel_rfl) <| qX h_c2 <| qe) (by kernel_rfl) (fun m_1 => ?_)
   have k_2 := k_1.drew m_1
   refine At_go <| W_seq <| W_seq <| W_q [] (.n 76 (.b (((decide (p_at < p)) && (decide (v = 0))) || (decide ((((18446744073709551615 : UInt64) - (UInt64.ofNat (c2 - 48).toNat)) / 10) < v)))) .a) (qs g_p 0 <| qs g_p 0 <| qB k_2 0 rfl 1 (I p) (by kernel_rfl) <| qp (((decide (p_at < p)) && (decide (v = 0))) = false → (10 : UInt64) ≠ 0) (fun hg0 => (by show (10 : UInt64) ≠ 0; decide)) <| qe) (by kernel_rfl) ?_
   refine At_go <| W_cond (((decide (p_at < p)) && (decide (v = 0))) || (decide ((((18446744073709551615 : UInt64) - (UInt64.ofNat (c2 - 48).toNat)) / 10) < v))) (by kernel_rfl) (fun hc2 => ?_) (fun hc2 => ?_)
   · rw [if_pos hc2] at hm
     refine W_seq <| W_reg <| WLs 3 [] (.n 79 (pt g_p 2) .z) (qs g_p 0 <| qs g_p 0 <| qe) (by kernel_rfl) ?_
     refine WL_op <| Op_b [] 0 (.b false) [.b false] (Pt.at g_p 2) k_2 rfl (.kk .h) (by kernel_rfl) (by kernel_rfl) ?_
     intro w_1 k_3
     refine WL_nil <| At_go <| W_seq <| W_q [] (.n 2 (.u64 0) .z) qe (by kernel_rfl) ?_
     refine At_go <| W_ret (At_tr (At_ir (At_tr (At_ir (At_tr ?_)))))
     have hm := exit_of hm hr0
     obtain rfl := Option.some.inj hm
     refine At_rt [.u64 0] qe (by kernel_rfl) ?_
     exact ⟨rfl, k_3⟩
   rw [if_neg (by rw [hc2]; decide)] at hm
   refine W_skip <| At_go <| W_seq <| W_q [] (.n 3 (.u64 (((10 : UInt64) * v) + (UInt64.ofNat (c2 - 48).toNat))) (.ss (.k (.s .a)))) qe (by kernel_rfl) ?_
   refine At_go <| W_reg <| WLs 7 [] (.n 88 (I (w64 (p + 1))) (.n 90 (pt g_p 1) .a)) (qs g_p 0 <| qs g_p 0 <| qB k_2 0 rfl 1 (I p) (by kernel_rfl) <| qs g_p 0 <| qs g_p 0 <| qe) (by kernel_rfl) ?_
   refine WL_op <| Op_b [] 0 (I (w64 (p + 1))) [I (w64 (p + 1))] (Pt.at g_p 1) k_2 rfl (.k .h) (by kernel_rfl) (by kernel_rfl) ?_
   intro w_2 k_4
   refine WL_nil <| At_in ?_
   exact At_rd (w64 (p + 1), ((10 : UInt64) * v) + (UInt64.ofNat (c2 - 48).toNat)) (Option.some.inj hm).symm ⟨w64 (p + 1), ((10 : UInt64) * v) + (UInt64.ofNat (c2 - 48).toNat), rfl, rfl, k_4⟩ (by kernel_rfl)
 rw [if_neg (by rw [hc1]; decide)] at hm
 refine W_exit (At_te (At_te (At_ie ?_)))
 have hm := exit_of hm hr0
 refine At_go <| W_seq <| W_reg <| WLs 9 [] (.n 97 (.b (decide (p_at < p))) (.n 99 (pt g_p 2) (.ss (.k .z)))) (qs g_p 0 <| qs g_p 0 <| qB k_1 0 rfl 1 (I p) (by kernel_rfl) <| qs g_p 0 <| qs g_p 0 <| qe) (by kernel_rfl) ?_
 refine WL_op <| Op_b [] 0 (.b (decide (p_at < p))) [.b (decide (p_at < p))] (Pt.at g_p 2) k_1 rfl (.kk .h) (by kernel_rfl) (by kernel_rfl) ?_
 intro w_3 k_5
 refine WL_nil <| At_go <| W_seq <| W_q [] (.n 2 (.u64 v) .z) qe (by kernel_rfl) ?_
 refine At_go <| W_ret ?_
 obtain rfl := Option.some.inj hm
 refine At_rt [.u64 v] qe (by kernel_rfl) ?_
 exact ⟨rfl, k_5⟩

-- quern/pass.whole
theorem c_pass_whole {F O : Nat → Prop} {w : World} (v : UInt64) (k : Cx F O w w []) (r : Int) (hm : m_pass_whole v = some r) :
    Calls Tryd.prog 20 (vals [.u64 v]) w (fun e w' => e = .returned (SV.val (I r)) ∧ Cx F O w w' []) := by
 unfold m_pass_whole at hm
 refine calls [.u64 v] Tryd.func20 rfl (of_decide_eq_true (by kernel_rfl)) ?_
 refine W_seq <| W_q [] .a qe (by kernel_rfl) ?_
 refine At_go <| W_seq <| W_seq <| W_q [] (.n 4 (.b (decide ((9223372036854775807 : UInt64) < v))) .a) qe (by kernel_rfl) ?_
 refine At_go <| W_condp ((9223372036854775807 : UInt64) < v) (by kernel_rfl) (fun hc => ?_) (fun hc => ?_)
 · rw [if_pos hc] at hm
   refine W_seq <| W_q [] (.n 2 (I (-1)) .z) qe (by kernel_rfl) ?_
   refine At_go <| W_ret (At_tr ?_)
   obtain rfl := Option.some.inj hm
   refine At_rt [I (-1)] qe (by kernel_rfl) ?_
   exact ⟨rfl, k⟩
 rw [if_neg hc] at hm
 refine W_skip <| At_go <| W_seq <| W_q [] (.n 2 (I (w64 v.toNat)) .z) qe (by kernel_rfl) ?_
 refine At_go <| W_ret ?_
 obtain rfl := Option.some.inj hm
 refine At_rt [I (w64 v.toNat)] qe (by kernel_rfl) ?_
 exact ⟨rfl, k⟩

-- internal/stringslite.IndexByte
theorem c_internal_stringslite_IndexByte {F O : Nat → Prop} {w : World} (s_ : List UInt8) (c : UInt8) (k : Cx F O w w []) (r : Int) (hm : m_internal_stringslite_IndexByte s_ c = some r) :
    Calls Tryd.prog 42 (vals [.s s_, .u8 c]) w (fun e w' => e = .returned (SV.val (I r)) ∧ Cx F O w w' []) := by
 unfold m_internal_stringslite_IndexByte at hm
 refine calls [.s s_, .u8 c] Tryd.func42 rfl (of_decide_eq_true (by kernel_rfl)) ?_
 refine W_seq <| W_q [] .a qe (by kernel_rfl) ?_
 refine At_go <| W_seq <| W_reg <| WLs 2 [] (.n 5 (.s s_) (.n 6 (.u8 c) .z)) qe (by kernel_rfl) ?_
 refine WL_op <| Op_idxb ph_ix48 [] 7 s_ c (by kernel_rfl) ?_
 refine WLs 1 [] (.n 4 (I (idxB s_ c)) .z) qe (by kernel_rfl) ?_
 refine WL_nil <| At_go <| W_ret ?_
 obtain rfl := Option.some.inj hm
 refine At_rt [I (idxB s_ c)] qe (by kernel_rfl) ?_
 exact ⟨rfl, k⟩

-- strings.IndexByte
theorem c_strings_IndexByte {F O : Nat → Prop} {w : World} (s_ : List UInt8) (c : UInt8) (k : Cx F O w w []) (r : Int) (hm : m_strings_IndexByte s_ c = some r) :
    Calls Tryd.prog 35 (vals [.s s_, .u8 c]) w (fun e w' => e = .returned (SV.val (I r)) ∧ Cx F O w w' []) := by
 unfold m_strings_IndexByte at hm
 refine calls [.s s_, .u8 c] Tryd.func35 rfl (of_decide_eq_true (by kernel_rfl)) ?_
 refine W_seq <| W_q [] .a qe (by kernel_rfl) ?_
 refine At_go <| W_seq <| W_reg <| WLs 2 [] (.n 5 (.s s_) (.n 6 (.u8 c) .z)) qe (by kernel_rfl) ?_
 refine WL_op ?_
 obtain ⟨r_, h_r_, hm⟩ := ob hm
 refine Op_call [] 7 _ ph_go42 (by kernel_rfl) (c_internal_stringslite_IndexByte (F := N0) (O := N0) _ _ (Cx.refl _) _ h_r_) ?_
 rintro e_ w_ ⟨rfl, k_⟩
 have k_1 := k.call k_
 refine ⟨I r_, rfl, ?_⟩
 refine WLs 1 [] (.n 4 (I r_) .z) qe (by kernel_rfl) ?_
 refine WL_nil <| At_go <| W_ret ?_
 obtain rfl := Option.some.inj hm
 refine At_rt [I r_] qe (by kernel_rfl) ?_
 exact ⟨rfl, k_1⟩

-- (*quern/pass.pen).letters
theorem c_pass_pen_letters {F O : Nat → Prop} {w : World} (p_s : List UInt8) (p_at : Int) (p_ok : Bool) (g_p : Nat) (k : Cx F O w w [Bx 48 g_p [.s p_s, I p_at, .b p_ok]]) (r : (List UInt8 × Int × List UInt8 × Int × Bool)) (hm : m_pass_pen_letters p_s p_at p_ok = some r) :
    Calls Tryd.prog 22 (vals [pt g_p 0]) w (fun e w' => e = .returned (SV.val (.tup [.s r.1, I r.2.1])) ∧ Cx F O w w' [Bx 48 g_p [.s r.2.2.1, I r.2.2.2.1, .b r.2.2.2.2]]) := by
 unfold m_pass_pen_letters at hm
 refine calls [pt g_p 0] Tryd.func22 rfl (of_decide_eq_true (by kernel_rfl)) ?_
 refine W_seq <| W_q [] .a qe (by kernel_rfl) ?_
 refine At_go <| W_seq <| W_q [] (.n 4 (I p_at) .a) (qs g_p 0 <| qs g_p 0 <| qB k 0 rfl 1 (I p_at) (by kernel_rfl) <| qe) (by kernel_rfl) ?_
 refine At_go <| W_seq <| W_block <| W_lp (m_pass_pen_letters_l0 p_s p_at p_ok) (fun s L wr => ∃ (p : Int), p = s ∧ L = [(0, pt g_p 0), (4, I p_at)] ∧ Cx F O w wr [Bx 48 g_p [.s p_s, I p, .b p_ok]]) p_at r hm ⟨p_at, rfl, rfl, k⟩ (by kernel_rfl) ?_
 intro s0_ L_ w_ y0 hrel hstep hr0
 obtain ⟨p, rfl, rfl, k_⟩ := hrel
 have hm := hstep; simp only [m_pass_pen_letters_l0] at hm
 clear hstep
 refine W_seq <| W_seq ?_
 have k_1 := k_.drew 1
 refine W_mN ph_mixed (.q 0 1 (.q 1 1 (.q 2 1 (.q 3 1 (.q 4 0 (.q 5 1 (.q 6 1 (.q 7 1 (.q 8 1 (.q 9 1 (.q 10 1 (.q 11 1 (.q 12 1 (.q 13 1 (.q 14 1 (.q 15 1 (.q 16 0 (.q 17 1 (.q 18 1 (.q 19 1 (.q 20 1 (.q 21 1 (.q 22 1 (.q 23 1 (.q 24 1 (.q 25 1 (.op 26 (.q 27 1 (.q 28 1 (.q 29 1 (.q 30 1 (.q 31 1 (.q 32 1 (.q 33 1 (.q 34 1 (.q 35 1 (.q 36 1 (.q 37 1 (.q 38 1 (.q 39 1 (.q 40 1 (.q 41 1 (.q 42 1 (.q 43 1 (.q 44 1 (.q 45 1 (.q 46 1 (.q 47 1 (.q 48 1 (.q 49 1 (.q 50 1 (.q 51 1 (.q 52 1 (.q 53 1 (.q 54 1 (.q 55 1 (.q 56 1 (.q 57 1 (.q 58 1 (.q 59 1 (.q 60 1 (.q 61 1 (.q 62 1 (.q 63 1 (.q 64 1 (.q 65 1 (.q 66 1 (.q 67 1 (.q 68 1 (.q 69 1 (.q 70 1 (.q 71 1 (.q 72 1 (.q 73 1 (.q 74 1 (.q 75 1 (.q 76 1 (.q 77 1 (.q 78 1 (.q 79 1 (.q 80 1 (.q 81 1 (.q 82 1 (.q 83 1 (.q 84 1 (.q 85 1 (.q 86 1 (.q 87 1 (.q 88 1 (.q 89 1 (.q 90 1 (.q 91 1 (.q 92 1 (.q 93 1 (.q 94 1 (.q 95 1 (.q 96 1 (.q 97 1 (.q 98 1 (.q 99 1 (.q 100 1 .nil))))))))))))))))))))))))))))))))))))))))))))))))))))))))))))))))))))))))))))))))))))))))))))))))))))) [26] k_1 (.c (.k .e) .l) (by kernel_rfl) (fun _ => ?_)
 refine MXq 4 1 [] (.n 12 (.b p_ok) .a) (fun x hx => qs g_p 0 <| qs g_p 0 <| qB hx 0 rfl 2 (.b p_ok) (by kernel_rfl) <| qe) (by kernel_rfl) (fun _ => ?_)
 refine MXq 1 0 [] (.n 13 (.b p_ok) (.s .a)) (fun x hx => qe) (by kernel_rfl) (fun _ => ?_)
 refine MXq 11 1 [] (.n 24 (.b (p_ok && (decide (p < (p_s.length : Int))))) (.s .a)) (fun x hx => qp (p_ok = true → (some ⟨g_p, 0, none⟩ : Option Addr).isSome = true) (fun hg0 => rfl) <| qp (p_ok = true → (some ⟨g_p, 0, none⟩ : Option Addr).isSome = true) (fun hg0 => rfl) <| qo (I p) <| qc (fun w => p_ok = true → ∃ a, (some ⟨g_p, 1, none⟩ : Option Addr) = some a ∧ w.cell? a = some (SV.val (I p))) (fun hg0 => hx.bld 0 rfl 1 (I p) (by kernel_rfl)) <| qp (p_ok = true → (some ⟨g_p, 0, none⟩ : Option Addr).isSome = true) (fun hg0 => rfl) <| qp (p_ok = true → (some ⟨g_p, 0, none⟩ : Option Addr).isSome = true) (fun hg0 => rfl) <| qo (.s p_s) <| qc (fun w => p_ok = true → ∃ a, (some ⟨g_p, 0, none⟩ : Option Addr) = some a ∧ w.cell? a = some (SV.val (.s p_s))) (fun hg0 => hx.bld 0 rfl 0 (.s p_s) (by kernel_rfl)) <| qe) (by kernel_rfl) (fun _ => ?_)
 refine MXq 1 0 [] (.n 25 (.b (p_ok && (decide (p < (p_s.length : Int))))) (.s .a)) (fun x hx => qe) (by kernel_rfl) (fun _ => ?_)
 refine MX_sp 25 (p_ok && (decide (p < (p_s.length : Int)))) (.s .a) (by kernel_rfl) (fun hg _ => ?_) (fun hg _ => ?_)
 · rw [if_pos hg] at hm
   obtain ⟨c, h_c, hm⟩ := ob hm
   refine MXq 9 1 [25] (.n 34 (.u8 c) .a) (fun x hx => qs g_p 0 <| qs g_p 0 <| qB hx 0 rfl 0 (.s p_s) (by kernel_rfl) <| qs g_p 0 <| qs g_p 0 <| qB hx 0 rfl 1 (I p) (by kernel_rfl) <| qX h_c <| qe) (by kernel_rfl) (fun _ => ?_)
   refine MX_op (by kernel_rfl) rfl ?_
   obtain ⟨r_, h_r_, hm⟩ := ob hm
   refine Op_call [25] 35 _ ph_go35 (by kernel_rfl) (c_strings_IndexByte (F := N0) (O := N0) _ _ (Cx.refl _) _ h_r_) ?_
   rintro e_ w_1 ⟨rfl, k_2⟩
   have k_3 := k_1.call k_2
   refine ⟨I r_, rfl, ?_⟩
   refine ⟨k_3, fun _ => ?_⟩
   obtain ⟨c1, h_c1, hm⟩ := ob hm
   obtain ⟨c2, h_c2, hm⟩ := ob hm
   obtain ⟨c3, h_c3, hm⟩ := ob hm
   obtain ⟨c4, h_c4, hm⟩ := ob hm
   obtain ⟨c5, h_c5, hm⟩ := ob hm
   obtain ⟨c6, h_c6, hm⟩ := ob hm
   refine MXq 74 1 [25] (.n 109 (.b ((((decide (0 ≤ r_)) || ((decide ((48 : UInt8) ≤ c1)) && (decide (c2 ≤ 57)))) || ((decide ((65 : UInt8) ≤ c3)) && (decide (c4 ≤ 90)))) || ((decide ((97 : UInt8) ≤ c5)) && (decide (c6 ≤ 122))))) (.sss .a)) (fun x hx => qp ((decide (0 ≤ r_)) = false → (some ⟨g_p, 0, none⟩ : Option Addr).isSome = true) (fun hg0 => rfl) <| qp ((decide (0 ≤ r_)) = false → (some ⟨g_p, 0, none⟩ : Option Addr).isSome = true) (fun hg0 => rfl) <| qo (.s p_s) <| qc (fun w => (decide (0 ≤ r_)) = false → ∃ a, (some ⟨g_p, 0, none⟩ : Option Addr) = some a ∧ w.cell? a = some (SV.val (.s p_s))) (fun hg0 => hx.bld 0 rfl 0 (.s p_s) (by kernel_rfl)) <| qp ((decide (0 ≤ r_)) = false → (some ⟨g_p, 0, none⟩ : Option Addr).isSome = true) (fun hg0 => rfl) <| qp ((decide (0 ≤ r_)) = false → (some ⟨g_p, 0, none⟩ : Option Addr).isSome = true) (fun hg0 => rfl) <| qo (I p) <| qc (fun w => (decide (0 ≤ r_)) = false → ∃ a, (some ⟨g_p, 1, none⟩ : Option Addr) = some a ∧ w.cell? a = some (SV.val (I p))) (fun hg0 => hx.bld 0 rfl 1 (I p) (by kernel_rfl)) <| qo (.u8 c1) <| qp ((decide (0 ≤ r_)) = false → 0 ≤ p ∧ p_s[Int.toNat p]? = some c1) (fun hg0 => geti_some (gif_not h_c1 hg0)) <| qp ((decide (0 ≤ r_)) = false → (decide ((48 : UInt8) ≤ c1)) = true → (some ⟨g_p, 0, none⟩ : Option Addr).isSome = true) (fun hg1 => fun hg0 => rfl) <| qp ((decide (0 ≤ r_)) = false → (decide ((48 : UInt8) ≤ c1)) = true → (some ⟨g_p, 0, none⟩ : Option Addr).isSome = true) (fun hg1 => fun hg0 => rfl) <| qo (.s p_s) <| qc (fun w => (decide (0 ≤ r_)) = false → (decide ((48 : UInt8) ≤ c1)) = true → ∃ a, (some ⟨g_p, 0, none⟩ : Option Addr) = some a ∧ w.cell? a = some (SV.val (.s p_s))) (fun hg1 => fun hg0 => hx.bld 0 rfl 0 (.s p_s) (by kernel_rfl)) <| qp ((decide (0 ≤ r_)) = false → (decide ((48 : UInt8) ≤ c1)) = true → (some ⟨g_p, 0, none⟩ : Option Addr).isSome = true) (fun hg1 => fun hg0 => rfl) <| qp ((decide (0 ≤ r_)) = false → (decide ((48 : UInt8) ≤ c1)) = true → (some ⟨g_p, 0, none⟩ : Option Addr).isSome = true) (fun hg1 => fun hg0 => rfl) <| qo (I p) <| qc (fun w => (decide (0 ≤ r_)) = false → (decide ((48 : UInt8) ≤ c1)) = true → ∃ a, (some ⟨g_p, 1, none⟩ : Option Addr) = some a ∧ w.cell? a = some (SV.val (I p))) (fun hg1 => fun hg0 => hx.bld 0 rfl 1 (I p) (by kernel_rfl)) <| qo (.u8 c2) <| qp ((decide (0 ≤ r_)) = false → (decide ((48 : UInt8) ≤ c1)) = true → 0 ≤ p ∧ p_s[Int.toNat p]? = some c2) (fun hg1 => fun hg0 => geti_some (gif_some (gif_not h_c2 hg1) hg0)) <| qp (((decide (0 ≤ r_)) || ((decide ((48 : UInt8) ≤ c1)) && (decide (c2 ≤ 57)))) = false → (some ⟨g_p, 0, none⟩ : Option Addr).isSome = true) (fun hg0 => rfl) <| qp (((decide (0 ≤ r_)) || ((decide ((48 : UInt8) ≤ c1)) && (decide (c2 ≤ 57)))) = false → (some ⟨g_p, 0, none⟩ : Option Addr).isSome = true) (fun hg0 => rfl) <| qo (.s p_s) <| qc (fun w => ((decide (0 ≤ r_)) || ((decide ((48 : UInt8) ≤ c1)) && (decide (c2 ≤ 57)))) = false → ∃ a, (some ⟨g_p, 0, none⟩ : Option Addr) = some a ∧ w.cell? a = some (SV.val (.s p_s))) (fun hg0 => hx.bld 0 rfl 0 (.s p_s) (by kernel_rfl)) <| qp (((decide (0 ≤ r_)) || ((decide ((48 : UInt8) ≤ c1)) && (decide (c2 ≤ 57)))) = false → (some ⟨g_p, 0, none⟩ : Option Addr).isSome = true) (fun hg0 => rfl) <| qp (((decide (0 ≤ r_)) || ((decide ((48 : UInt8) ≤ c1)) && (decide (c2 ≤ 57)))) = false → (some ⟨g_p, 0, none⟩ : Option Addr).isSome = true) (fun hg0 => rfl) <| qo (I p) <| qc (fun w => ((decide (0 ≤ r_)) || ((decide ((48 : UInt8) ≤ c1)) && (decide (c2 ≤ 57)))) = false → ∃ a, (some ⟨g_p, 1, none⟩ : Option Addr) = some a ∧ w.cell? a = some (SV.val (I p))) (fun hg0 => hx.bld 0 rfl 1 (I p) (by kernel_rfl)) <| qo (.u8 c3) <| qp (((decide (0 ≤ r_)) || ((decide ((48 : UInt8) ≤ c1)) && (decide (c2 ≤ 57)))) = false → 0 ≤ p ∧ p_s[Int.toNat p]? = some c3) (fun hg0 => geti_some (gif_not h_c3 hg0)) <| qp (((decide (0 ≤ r_)) || ((decide ((48 : UInt8) ≤ c1)) && (decide (c2 ≤ 57)))) = false → (decide ((65 : UInt8) ≤ c3)) = true → (some ⟨g_p, 0, none⟩ : Option Addr).isSome = true) (fun hg1 => fun hg0 => rfl) <| qp (((decide (0 ≤ r_)) || ((decide ((48 : UInt8) ≤ c1)) && (decide (c2 ≤ 57)))) = false → (decide ((65 : UInt8) ≤ c3)) = true → (some ⟨g_p, 0, none⟩ : Option Addr).isSome = true) (fun hg1 => fun hg0 => rfl) <| qo (.s p_s) <| qc (fun w => ((decide (0 ≤ r_)) || ((decide ((48 : UInt8) ≤ c1)) && (decide (c2 ≤ 57)))) = false → (decide ((65 : UInt8) ≤ c3)) = true → ∃ a, (some ⟨g_p, 0, none⟩ : Option Addr) = some a ∧ w.cell? a = some (SV.val (.s p_s))) (fun hg1 => fun hg0 => hx.bld 0 rfl 0 (.s p_s) (by kernel_rfl)) <| qp (((decide (0 ≤ r_)) || ((decide ((48 : UInt8) ≤ c1)) && (decide (c2 ≤ 57)))) = false → (decide ((65 : UInt8) ≤ c3)) = true → (some ⟨g_p, 0, none⟩ : Option Addr).isSome = true) (fun hg1 => fun hg0 => rfl) <| qp (((decide (0 ≤ r_)) || ((decide ((48 : UInt8) ≤ c1)) && (decide (c2 ≤ 57)))) = false → (decide ((65 : UInt8) ≤ c3)) = true → (some ⟨g_p, 0, none⟩ : Option Addr).isSome = true) (fun hg1 => fun hg0 => rfl) <| qo (I p) <| qc (fun w => ((decide (0 ≤ r_)) || ((decide ((48 : UInt8) ≤ c1)) && (decide (c2 ≤ 57)))) = false → (decide ((65 : UInt8) ≤ c3)) = true → ∃ a, (some ⟨g_p, 1, none⟩ : Option Addr) = some a ∧ w.cell? a = some (SV.val (I p))) (fun hg1 => fun hg0 => hx.bld 0 rfl 1 (I p) (by kernel_rfl)) <| qo (.u8 c4) <| qp (((decide (0 ≤ r_)) || ((decide ((48 : UInt8) ≤ c1)) && (decide (c2 ≤ 57)))) = false → (decide ((65 : UInt8) ≤ c3)) = true → 0 ≤ p ∧ p_s[Int.toNat p]? = some c4) (fun hg1 => fun hg0 => geti_some (gif_some (gif_not h_c4 hg1) hg0)) <| qp ((((decide (0 ≤ r_)) || ((decide ((48 : UInt8) ≤ c1)) && (decide (c2 ≤ 57)))) || ((decide ((65 : UInt8) ≤ c3)) && (decide (c4 ≤ 90)))) = false → (some ⟨g_p, 0, none⟩ : Option Addr).isSome = true) (fun hg0 => rfl) <| qp ((((decide (0 ≤ r_)) || ((decide ((48 : UInt8) ≤ c1)) && (decide (c2 ≤ 57)))) || ((decide ((65 : UInt8) ≤ c3)) && (decide (c4 ≤ 90)))) = false → (some ⟨g_p, 0, none⟩ : Option Addr).isSome = true) (fun hg0 => rfl) <| qo (.s p_s) <| qc (fun w => (((decide (0 ≤ r_)) || ((decide ((48 : UInt8) ≤ c1)) && (decide (c2 ≤ 57)))) || ((decide ((65 : UInt8) ≤ c3)) && (decide (c4 ≤ 90)))) = false → ∃ a, (some ⟨g_p, 0, none⟩ : Option Addr) = some a ∧ w.cell? a = some (SV.val (.s p_s))) (fun hg0 => hx.bld 0 rfl 0 (.s p_s) (by kernel_rfl)) <| qp ((((decide (0 ≤ r_)) || ((decide ((48 : UInt8) ≤ c1)) && (decide (c2 ≤ 57)))) || ((decide ((65 : UInt8) ≤ c3)) && (decide (c4 ≤ 90)))) = false → (some ⟨g_p, 0, none⟩ : Option Addr).isSome = true) (fun hg0 => rfl) <| qp ((((decide (0 ≤ r_)) || ((decide ((48 : UInt8) ≤ c1)) && (decide (c2 ≤ 57)))) || ((decide ((65 : UInt8) ≤ c3)) && (decide (c4 ≤ 90)))) = false → (some ⟨g_p, 0, none⟩ : Option Addr).isSome = true) (fun hg0 => rfl) <| qo (I p) <| qc (fun w => (((decide (0 ≤ r_)) || ((decide ((48 : UInt8) ≤ c1)) && (decide (c2 ≤ 57)))) || ((decide ((65 : UInt8) ≤ c3)) && (decide (c4 ≤ 90)))) = false → ∃ a, (some ⟨g_p, 1, none⟩ : Option Addr) = some a ∧ w.cell? a = some (SV.val (I p))) (fun hg0 => hx.bld 0 rfl 1 (I p) (by kernel_rfl)) <| qo (.u8 c5) <| qp ((((decide (0 ≤ r_)) || ((decide ((48 : UInt8) ≤ c1)) && (decide (c2 ≤ 57)))) || ((decide ((65 : UInt8) ≤ c3)) && (decide (c4 ≤ 90)))) = false → 0 ≤ p ∧ p_s[Int.toNat p]? = some c5) (fun hg0 => geti_some (gif_not h_c5 hg0)) <| qp ((((decide (0 ≤ r_)) || ((decide ((48 : UInt8) ≤ c1)) && (decide (c2 ≤ 57)))) || ((decide ((65 : UInt8) ≤ c3)) && (decide (c4 ≤ 90)))) = false → (decide ((97 : UInt8) ≤ c5)) = true → (some ⟨g_p, 0, none⟩ : Option Addr).isSome = true) (fun hg1 => fun hg0 => rfl) <| qp ((((decide (0 ≤ r_)) || ((decide ((48 : UInt8) ≤ c1)) && (decide (c2 ≤ 57)))) || ((decide ((65 : UInt8) ≤ c3)) && (decide (c4 ≤ 90)))) = false → (decide ((97 : UInt8) ≤ c5)) = true → (some ⟨g_p, 0, none⟩ : Option Addr).isSome = true) (fun hg1 => fun hg0 => rfl) <| qo (.s p_s) <| qc (fun w => (((decide (0 ≤ r_)) || ((decide ((48 : UInt8) ≤ c1)) && (decide (c2 ≤ 57)))) || ((decide ((65 : UInt8) ≤ c3)) && (decide (c4 ≤ 90)))) = false → (decide ((97 : UInt8) ≤ c5)) = true → ∃ a, (some ⟨g_p, 0, none⟩ : Option Addr) = some a ∧ w.cell? a = some (SV.val (.s p_s))) (fun hg1 => fun hg0 => hx.bld 0 rfl 0 (.s p_s) (by kernel_rfl)) <| qp ((((decide (0 ≤ r_)) || ((decide ((48 : UInt8) ≤ c1)) && (decide (c2 ≤ 57)))) || ((decide ((65 : UInt8) ≤ c3)) && (decide (c4 ≤ 90)))) = false → (decide ((97 : UInt8) ≤ c5)) = true → (some ⟨g_p, 0, none⟩ : Option Addr).isSome = true) (fun hg1 => fun hg0 => rfl) <| qp ((((decide (0 ≤ r_)) || ((decide ((48 : UInt8) ≤ c1)) && (decide (c2 ≤ 57)))) || ((decide ((65 : UInt8) ≤ c3)) && (decide (c4 ≤ 90)))) = false → (decide ((97 : UInt8) ≤ c5)) = true → (some ⟨g_p, 0, none⟩ : Option Addr).isSome = true) (fun hg1 => fun hg0 => rfl) <| qo (I p) <| qc (fun w => (((decide (0 ≤ r_)) || ((decide ((48 : UInt8) ≤ c1)) && (decide (c2 ≤ 57)))) || ((decide ((65 : UInt8) ≤ c3)) && (decide (c4 ≤ 90)))) = false → (decide ((97 : UInt8) ≤ c5)) = true → ∃ a, (some ⟨g_p, 1, none⟩ : Option Addr) = some a ∧ w.cell? a = some (SV.val (I p))) (fun hg1 => fun hg0 => hx.bld 0 rfl 1 (I p) (by kernel_rfl)) <| qo (.u8 c6) <| qp ((((decide (0 ≤ r_)) || ((decide ((48 : UInt8) ≤ c1)) && (decide (c2 ≤ 57)))) || ((decide ((65 : UInt8) ≤ c3)) && (decide (c4 ≤ 90)))) = false → (decide ((97 : UInt8) ≤ c5)) = true → 0 ≤ p ∧ p_s[Int.toNat p]? = some c6) (fun hg1 => fun hg0 => geti_some (gif_some (gif_not h_c6 hg1) hg0)) <| qe) (by kernel_rfl) (fun _ => ?_)
   refine MX_nil <| At_go <| W_cond ((((decide (0 ≤ r_)) || ((decide ((48 : UInt8) ≤ c1)) && (decide (c2 ≤ 57)))) || ((decide ((65 : UInt8) ≤ c3)) && (decide (c4 ≤ 90)))) || ((decide ((97 : UInt8) ≤ c5)) && (decide (c6 ≤ 122)))) (by kernel_rfl) (fun hc => ?_) (fun hc => ?_)
   · rw [if_pos hc] at hm
     refine W_skip <| At_go <| W_block <| W_reg <| WLs 7 [] (.n 114 (I (w64 (p + 1))) (.n 116 (pt g_p 1) (.s .a))) (qs g_p 0 <| qs g_p 0 <| qB k_3 0 rfl 1 (I p) (by kernel_rfl) <| qs g_p 0 <| qs g_p 0 <| qe) (by kernel_rfl) ?_
     refine WL_op <| Op_b [] 0 (I (w64 (p + 1))) [I (w64 (p + 1))] (Pt.at g_p 1) k_3 rfl (.k .h) (by kernel_rfl) (by kernel_rfl) ?_
     intro w_2 k_4
     refine WL_nil <| At_in ?_
     exact At_rd (w64 (p + 1)) (Option.some.inj hm).symm ⟨w64 (p + 1), rfl, rfl, k_4⟩ (by kernel_rfl)
   rw [if_neg (by rw [hc]; decide)] at hm
   refine W_exit (At_te (At_te (At_ie ?_)))
   have hm := exit_of hm hr0
   refine At_go <| W_seq ?_
   obtain ⟨s_, h_s_, hm⟩ := ob hm
   have hs := slc_some h_s_
   refine W_d ph_mixed (by kernel_rfl) (.n 2 (.s s_) (.n 3 (I p_at) .z)) (fun m => qs g_p 0 <| qs g_p 0 <| qB (k_3.drew m) 0 rfl 0 (.s p_s) (by kernel_rfl) <| qs g_p 0 <| qs g_p 0 <| qB (k_3.drew m) 0 rfl 1 (I p) (by kernel_rfl) <| qp (0 ≤ p ∧ p ≤ ((p_s.length : Nat) : Int)) (by omega) <| qp (0 ≤ p_at ∧ p_at ≤ ((Int.toNat p : Nat) : Int)) (by omega) <| qo (.s s_) <| qp ((p_s.take (Int.toNat p)).drop (Int.toNat p_at) = s_) hs.2.2.2.symm <| qe) (by kernel_rfl) (fun m_ => ?_)
   have k_5 := k_3.drew m_
   refine At_go <| W_ret ?_
   obtain rfl := Option.some.inj hm
   refine At_rt [.s s_, I p_at] qe (by kernel_rfl) ?_
   exact ⟨rfl, k_5⟩
 · rw [if_neg (by rw [hg]; decide)] at hm
   refine MXq 9 1 [25] (.n 34 (.tup []) .a) (fun x hx => qe) (by kernel_rfl) (fun _ => ?_)
   refine MX_off 35 [25] (by kernel_rfl) rfl (by kernel_rfl) (fun _ => ?_)
   refine MXq 74 1 [25, 37, 48, 61, 72, 85, 96] (.n 109 (.b false) (.sss .a)) (fun x hx => qe) (by kernel_rfl) (fun _ => ?_)
   refine MX_nil <| At_go <| W_cond false (by kernel_rfl) (fun h => by cases h) (fun _ => ?_)
   refine W_exit (At_te (At_te (At_ie ?_)))
   have hm := exit_of hm hr0
   refine At_go <| W_seq ?_
   obtain ⟨s_1, h_s_1, hm⟩ := ob hm
   have hs1 := slc_some h_s_1
   refine W_d ph_mixed (by kernel_rfl) (.n 2 (.s s_1) (.n 3 (I p_at) .z)) (fun m => qs g_p 0 <| qs g_p 0 <| qB (k_1.drew m) 0 rfl 0 (.s p_s) (by kernel_rfl) <| qs g_p 0 <| qs g_p 0 <| qB (k_1.drew m) 0 rfl 1 (I p) (by kernel_rfl) <| qp (0 ≤ p ∧ p ≤ ((p_s.length : Nat) : Int)) (by omega) <| qp (0 ≤ p_at ∧ p_at ≤ ((Int.toNat p : Nat) : Int)) (by omega) <| qo (.s s_1) <| qp ((p_s.take (Int.toNat p)).drop (Int.toNat p_at) = s_1) hs1.2.2.2.symm <| qe) (by kernel_rfl) (fun m_1 => ?_)
   have k_6 := k_1.drew m_1
   refine At_go <| W_ret ?_
   obtain rfl := Option.some.inj hm
   refine At_rt [.s s_1, I p_at] qe (by kernel_rfl) ?_
   exact ⟨rfl, k_6⟩

-- quern/word.letter
theorem c_word_letter {F O : Nat → Prop} {w : World} (c : UInt8) (k : Cx F O w w []) (r : (UInt32 × Bool)) (hm : m_word_letter c = some r) :
    Calls Tryd.prog 36 (vals [.u8 c]) w (fun e w' => e = .returned (SV.val (.tup [.u32 r.1, .b r.2])) ∧ Cx F O w w' []) := by
 unfold m_word_letter at hm
 refine calls [.u8 c] Tryd.func36 rfl (of_decide_eq_true (by kernel_rfl)) ?_
 refine W_seq <| W_q [] .a qe (by kernel_rfl) ?_
 refine At_go <| W_seq <| W_block <| W_seq <| W_q [] (.n 4 (.b ((decide ((65 : UInt8) ≤ c)) && (decide (c ≤ 90)))) .a) qe (by kernel_rfl) ?_
 refine At_go <| W_cond ((decide ((65 : UInt8) ≤ c)) && (decide (c ≤ 90))) (by kernel_rfl) (fun hc => ?_) (fun hc => ?_)
 · rw [if_pos hc] at hm
   refine W_seq <| W_q [] (.n 2 (.u32 (UInt32.ofNat (c - 65).toNat)) (.n 3 (.b true) .z)) qe (by kernel_rfl) ?_
   refine At_go <| W_ret (At_ir (At_tr ?_))
   obtain rfl := Option.some.inj hm
   refine At_rt [.u32 (UInt32.ofNat (c - 65).toNat), .b true] qe (by kernel_rfl) ?_
   exact ⟨rfl, k⟩
 rw [if_neg (by rw [hc]; decide)] at hm
 refine W_seq <| W_q [] (.n 14 (.b ((decide ((97 : UInt8) ≤ c)) && (decide (c ≤ 122)))) (.s .a)) qe (by kernel_rfl) ?_
 refine At_go <| W_cond ((decide ((97 : UInt8) ≤ c)) && (decide (c ≤ 122))) (by kernel_rfl) (fun hc1 => ?_) (fun hc1 => ?_)
 · rw [if_pos hc1] at hm
   refine W_seq <| W_q [] (.n 2 (.u32 ((UInt32.ofNat (c - 97).toNat) + 26)) (.n 3 (.b true) .z)) qe (by kernel_rfl) ?_
   refine At_go <| W_ret (At_ir (At_tr ?_))
   obtain rfl := Option.some.inj hm
   refine At_rt [.u32 ((UInt32.ofNat (c - 97).toNat) + 26), .b true] qe (by kernel_rfl) ?_
   exact ⟨rfl, k⟩
 rw [if_neg (by rw [hc1]; decide)] at hm
 refine W_seq <| W_q [] (.n 25 (.b ((decide ((48 : UInt8) ≤ c)) && (decide (c ≤ 57)))) (.s .a)) qe (by kernel_rfl) ?_
 refine At_go <| W_cond ((decide ((48 : UInt8) ≤ c)) && (decide (c ≤ 57))) (by kernel_rfl) (fun hc2 => ?_) (fun hc2 => ?_)
 · rw [if_pos hc2] at hm
   refine W_seq <| W_q [] (.n 2 (.u32 ((UInt32.ofNat (c - 48).toNat) + 52)) (.n 3 (.b true) .z)) qe (by kernel_rfl) ?_
   refine At_go <| W_ret (At_ir (At_tr ?_))
   obtain rfl := Option.some.inj hm
   refine At_rt [.u32 ((UInt32.ofNat (c - 48).toNat) + 52), .b true] qe (by kernel_rfl) ?_
   exact ⟨rfl, k⟩
 rw [if_neg (by rw [hc2]; decide)] at hm
 refine W_seq <| W_q [] (.n 36 (.b (decide (c = 43))) (.s .a)) qe (by kernel_rfl) ?_
 refine At_go <| W_condp (c = 43) (by kernel_rfl) (fun hc3 => ?_) (fun hc3 => ?_)
 · rw [if_pos hc3] at hm
   refine W_seq <| W_q [] (.n 2 (.u32 62) (.n 3 (.b true) .z)) qe (by kernel_rfl) ?_
   refine At_go <| W_ret (At_ir (At_tr ?_))
   obtain rfl := Option.some.inj hm
   refine At_rt [.u32 62, .b true] qe (by kernel_rfl) ?_
   exact ⟨rfl, k⟩
 rw [if_neg hc3] at hm
 refine W_seq <| W_q [] (.n 39 (.b (decide (c = 47))) .z) qe (by kernel_rfl) ?_
 refine At_go <| W_condp (c = 47) (by kernel_rfl) (fun hc4 => ?_) (fun hc4 => ?_)
 · rw [if_pos hc4] at hm
   refine W_seq <| W_q [] (.n 2 (.u32 63) (.n 3 (.b true) .z)) qe (by kernel_rfl) ?_
   refine At_go <| W_ret (At_ir (At_tr ?_))
   obtain rfl := Option.some.inj hm
   refine At_rt [.u32 63, .b true] qe (by kernel_rfl) ?_
   exact ⟨rfl, k⟩
 rw [if_neg hc4] at hm
 refine W_skip <| At_in <| At_go <| W_seq <| W_q [] (.n 2 (.u32 0) (.n 3 (.b false) .z)) qe (by kernel_rfl) ?_
 refine At_go <| W_ret ?_
 obtain rfl := Option.some.inj hm
 refine At_rt [.u32 0, .b false] qe (by kernel_rfl) ?_
 exact ⟨rfl, k⟩

-- quern/word.UnBase64
theorem c_word_UnBase64 {F O : Nat → Prop} {w : World} (s_ : List UInt8) (k : Cx F O w w []) (r : (List UInt8 × Int × Int)) (hm : m_word_UnBase64 s_ = some r) :
    Calls Tryd.prog 23 (vals [.s s_]) w (fun e w' => ∃ A n c, r.1.length = n ∧ e = .returned (SV.val (.tup [sl A n c, I r.2.1, I r.2.2])) ∧ Cx F O w w' [Ow e8 A n c r.1]) := by
 unfold m_word_UnBase64 at hm
 refine calls [.s s_] Tryd.func23 rfl (of_decide_eq_true (by kernel_rfl)) ?_
 refine W_seq <| W_q [] .a qe (by kernel_rfl) ?_
 refine At_go <| W_seq <| W_q [] (.n 5 (sl none 0 0) .a) qe (by kernel_rfl) ?_
 refine At_go <| W_seq <| W_q [] (.n 6 (I 0) (.n 7 (.u32 0) .a)) qe (by kernel_rfl) ?_
 refine At_go <| W_seq <| W_seq <| W_q [] (.n 12 (I (s_.length : Int)) (.n 13 (I 0) .a)) qe (by kernel_rfl) ?_
 refine At_go <| W_block ?_
 have k_1 := k.nil e8
 refine W_lp (m_word_UnBase64_l0 s_) (fun s L wr => ∃ (b : List UInt8) (have_ : Int) (v : UInt32) (x_0 : Int) (A0 : Option Addr) (n0 : Nat) (c0 : Nat), (b, have_, v, x_0) = s ∧ L = [(0, .s s_), (5, sl A0 n0 c0), (6, I have_), (7, .u32 v), (12, I (s_.length : Int)), (13, I x_0)] ∧ b.length = n0 ∧ Cx F O w wr [Ow e8 A0 n0 c0 b]) (([] : List UInt8), (0 : Int), (0 : UInt32), (0 : Int)) r hm ⟨([] : List UInt8), (0 : Int), (0 : UInt32), (0 : Int), none, 0, 0, rfl, rfl, k_1.len 0 rfl, k_1⟩ (by kernel_rfl) ?_
 intro s0_ L_ w_ y0 hrel hstep hr0
 obtain ⟨b, have_, v, x_0, A0, _, c0, rfl, rfl, rfl, k_⟩ := hrel
 have hm := hstep; simp only [m_word_UnBase64_l0] at hm
 clear hstep
 refine W_seq <| W_q [] (.n 14 (.b (decide (x_0 < (s_.length : Int)))) .a) qe (by kernel_rfl) ?_
 refine At_go <| W_seq <| W_condp (x_0 < (s_.length : Int)) (by kernel_rfl) (fun hc => ?_) (fun hc => ?_)
 · rw [if_pos hc] at hm
   refine W_skip <| At_go <| W_cut (fun L wr => ∃ (b1 : List UInt8) (have_1 : Int) (v1 : UInt32) (A1 : Option Addr) (n1 : Nat) (c1 : Nat), m_word_UnBase64_j0 x_0 b1 have_1 v1 = some y0 ∧ L = [(0, .s s_), (5, sl A1 n1 c1), (6, I have_1), (7, .u32 v1), (12, I (s_.length : Int)), (13, I x_0)] ∧ b1.length = n1 ∧ Cx F O w wr [Ow e8 A1 n1 c1 b1]) ?_ ?_
   ·
    refine W_block <| W_seq <| W_q [] (.n 8 (I x_0) (.s .a)) qe (by kernel_rfl) ?_
    refine At_go <| W_seq <| W_reg ?_
    obtain ⟨c2, h_c2, hm⟩ := ob hm
    refine WLs 3 [] (.n 19 (.u8 c2) .a) (qX h_c2 <| qe) (by kernel_rfl) ?_
    refine WL_op ?_
    obtain ⟨r_, h_r_, hm⟩ := ob hm
    refine Op_call [] 20 _ ph_go36 (by kernel_rfl) (c_word_letter (F := N0) (O := N0) _ (Cx.refl _) _ h_r_) ?_
    rintro e_ w_1 ⟨rfl, k_2⟩
    have k_3 := k_.call k_2
    refine ⟨.tup [.u32 r_.1, .b r_.2], rfl, ?_⟩
    refine WLs 5 [] (.n 9 (.u32 r_.1) (.n 10 (.b r_.2) (.ss .a))) qe (by kernel_rfl) ?_
    refine WL_nil <| At_go <| W_seq <| W_seq <| W_q [] (.n 24 (.b (!r_.2)) (.k (.s .a))) qe (by kernel_rfl) ?_
    refine At_go <| W_cond (!r_.2) (by kernel_rfl) (fun hc1 => ?_) (fun hc1 => ?_)
    · rw [if_pos hc1] at hm
      refine W_seq <| W_q [] (.n 2 (sl none 0 0) (.n 3 (I x_0) (.n 4 (I 4) .z))) qe (by kernel_rfl) ?_
      refine At_go <| W_ret (At_tr (At_ir (At_tr (At_tr (At_ir (At_tr ?_))))))
      have hm := exit_of hm hr0
      have k_4 := k_3.nil e8
      obtain rfl := Option.some.inj hm
      refine At_rt [sl none 0 0, I x_0, I 4] qe (by kernel_rfl) ?_
      have k_5 := k_4.sel (.s (.k .e))
      exact ⟨none, 0, 0, k_5.len 0 rfl, rfl, k_5⟩
    rw [if_neg (by rw [hc1]; decide)] at hm
    refine W_skip <| At_go <| W_seq <| W_q [] (.n 7 (.u32 ((shl32 v ((6 : UInt64).toNat)) ||| r_.1)) (.sss (.kkk (.s .a)))) qe (by kernel_rfl) ?_
    refine At_go <| W_seq <| W_q [] (.n 6 (I (w64 (have_ + 6))) (.kkk (.s .a))) qe (by kernel_rfl) ?_
    refine At_go <| W_seq <| W_q [] (.n 33 (.b (decide (8 ≤ (w64 (have_ + 6))))) .a) qe (by kernel_rfl) ?_
    refine At_go <| W_condp (8 ≤ (w64 (have_ + 6))) (by kernel_rfl) (fun hc2 => ?_) (fun hc2 => ?_)
    · rw [if_pos hc2] at hm
      refine W_seq <| W_q [] (.n 6 (I (w64 ((w64 (have_ + 6)) - 8))) (.ss .a)) qe (by kernel_rfl) ?_
      refine At_go <| W_seq <| W_reg ?_
      obtain ⟨u, h_u, hm⟩ := ob hm
      refine WLs 5 [] (.n 36 (sl A0 b.length c0) (.n 40 (.u8 (UInt8.ofNat (shr32 ((shl32 v ((6 : UInt64).toNat)) ||| r_.1) (Int.toNat (w64 ((w64 (have_ + 6)) - 8)))).toNat)) .a)) (qp (0 ≤ w64 ((w64 (have_ + 6)) - 8)) (need_some h_u) <| qe) (by kernel_rfl) ?_
      refine WL_op <| Op_mk ph_tf24 e8 [] 41 ([UInt8.ofNat (shr32 ((shl32 v ((6 : UInt64).toNat)) ||| r_.1) (Int.toNat (w64 ((w64 (have_ + 6)) - 8)))).toNat] : List UInt8) [(0, .u8 (UInt8.ofNat (shr32 ((shl32 v ((6 : UInt64).toNat)) ||| r_.1) (Int.toNat (w64 ((w64 (have_ + 6)) - 8)))).toNat))] [.u8 (UInt8.ofNat (shr32 ((shl32 v ((6 : UInt64).toNat)) ||| r_.1) (Int.toNat (w64 ((w64 (have_ + 6)) - 8)))).toNat)] (by kernel_rfl) (by kernel_rfl) (by kernel_rfl) k_3 ?_
      intro A2 w_2 k_6
      refine WL_op ?_
      obtain ⟨b2, h_b2, hm⟩ := ob hm
      obtain ⟨hz, hl⟩ := app_some h_b2
      refine Op_append (E := e8) (v := sl A2 1 1) (ys := ([UInt8.ofNat (shr32 ((shl32 v ((6 : UInt64).toNat)) ||| r_.1) (Int.toNat (w64 ((w64 (have_ + 6)) - 8)))).toNat] : List UInt8)) ph_tf24 [] 42 0 (by kernel_rfl) k_6 rfl (Src.sl (k_6.rd 1 rfl) (k_6.len 1 rfl) (by rfl)) (k_6.len 1 rfl) (by have := k_6.len 0 rfl; have := (k_6.len 1 rfl); omega) ?_
      intro A3 c3 w_3 k_7
      rw [← hl] at k_7
      have k_8 := k_7.sel (.k .z)
      refine WLs 1 [] (.n 5 (sl A3 (b.length + 1) c3) (.ssss (.kkk (.s .a)))) qe (by kernel_rfl) ?_
      refine WL_nil <| At_go ?_
      obtain ⟨u1, h_u1, hm⟩ := ob hm
      refine W_q [] (.n 7 (.u32 (((shl32 v ((6 : UInt64).toNat)) ||| r_.1) &&& ((shl32 1 (Int.toNat (w64 ((w64 (have_ + 6)) - 8)))) - 1))) (.kk (.s .a))) (qp (0 ≤ w64 ((w64 (have_ + 6)) - 8)) (need_some h_u1) <| qe) (by kernel_rfl) ?_
      refine At_in ?_
      exact At_c ⟨b2, w64 ((w64 (have_ + 6)) - 8), ((shl32 v ((6 : UInt64).toNat)) ||| r_.1) &&& ((shl32 1 (Int.toNat (w64 ((w64 (have_ + 6)) - 8)))) - 1), A3, b.length + 1, c3, hm, rfl, k_8.len 0 rfl, k_8⟩ (by kernel_rfl)
    rw [if_neg hc2] at hm
    refine W_skip <| At_in ?_
    exact At_c ⟨b, w64 (have_ + 6), (shl32 v ((6 : UInt64).toNat)) ||| r_.1, A0, b.length, c0, hm, rfl, k_3.len 0 rfl, k_3⟩ (by kernel_rfl)
   rintro L_ w_4 ⟨b1, have_1, v1, A1, _, c1, hm, rfl, rfl, k_9⟩
   simp only [m_word_UnBase64_j0] at hm
   refine W_q [] (.n 13 (I (w64 (x_0 + 1))) (.kkkk (.k .z))) qe (by kernel_rfl) ?_
   exact At_rd (b1, have_1, v1, w64 (x_0 + 1)) (Option.some.inj hm).symm ⟨b1, have_1, v1, w64 (x_0 + 1), A1, b1.length, c1, rfl, rfl, k_9.len 0 rfl, k_9⟩ (by kernel_rfl)
 rw [if_neg hc] at hm
 refine W_exit (At_te (At_te (At_ie ?_)))
 have hm := exit_of hm hr0
 refine At_go <| W_seq <| W_seq <| W_q [] (.n 52 (.b (decide ((Int.tmod (s_.length : Int) 4) = 1))) (.s (.kk (.s (.k .z))))) (qp ((4 : Int) ≠ (0 : Int)) (by omega) <| qe) (by kernel_rfl) ?_
 refine At_go <| W_condp ((Int.tmod (s_.length : Int) 4) = 1) (by kernel_rfl) (fun hc3 => ?_) (fun hc3 => ?_)
 · rw [if_pos hc3] at hm
   refine W_seq <| W_q [] (.n 2 (sl none 0 0) (.n 3 (I (s_.length : Int)) (.n 4 (I 4) .z))) qe (by kernel_rfl) ?_
   refine At_go <| W_ret (At_tr ?_)
   have k_10 := k_.nil e8
   obtain rfl := Option.some.inj hm
   refine At_rt [sl none 0 0, I (s_.length : Int), I 4] qe (by kernel_rfl) ?_
   have k_11 := k_10.sel (.s (.k .e))
   exact ⟨none, 0, 0, k_11.len 0 rfl, rfl, k_11⟩
 rw [if_neg hc3] at hm
 refine W_skip <| At_go <| W_seq <| W_seq <| W_q [] (.n 56 (.b (decide (v ≠ 0))) (.s (.kk .z))) qe (by kernel_rfl) ?_
 refine At_go <| W_condp (v ≠ 0) (by kernel_rfl) (fun hc4 => ?_) (fun hc4 => ?_)
 · rw [if_pos hc4] at hm
   refine W_seq <| W_q [] (.n 2 (sl none 0 0) (.n 3 (I (w64 ((s_.length : Int) - 1))) (.n 4 (I 4) .z))) qe (by kernel_rfl) ?_
   refine At_go <| W_ret (At_tr ?_)
   have k_12 := k_.nil e8
   obtain rfl := Option.some.inj hm
   refine At_rt [sl none 0 0, I (w64 ((s_.length : Int) - 1)), I 4] qe (by kernel_rfl) ?_
   have k_13 := k_12.sel (.s (.k .e))
   exact ⟨none, 0, 0, k_13.len 0 rfl, rfl, k_13⟩
 rw [if_neg hc4] at hm
 refine W_skip <| At_go <| W_seq <| W_q [] (.n 2 (sl A0 b.length c0) (.n 3 (I 0) (.n 4 (I 0) .z))) qe (by kernel_rfl) ?_
 refine At_go <| W_ret ?_
 obtain rfl := Option.some.inj hm
 refine At_rt [sl A0 b.length c0, I 0, I 0] qe (by kernel_rfl) ?_
 exact ⟨A0, b.length, c0, k_.len 0 rfl, rfl, k_⟩

-- quern/argon.bounds
theorem c_argon_bounds {F O : Nat → Prop} {w : World} (a_Kind : Int) (a_Memory : Int) (a_Passes : Int) (a_Lanes : Int) (a_Tag : Int) (k : Cx F O w w []) (r : (List (Int × Int × Int))) (hm : m_argon_bounds a_Kind a_Memory a_Passes a_Lanes a_Tag = some r) :
    Calls Tryd.prog 43 (vals [.agg [I a_Kind, I a_Memory, I a_Passes, I a_Lanes, I a_Tag]]) w (fun e w' => ∃ A n c, r.length = n ∧ e = .returned (SV.val (sl A n c)) ∧ Cx F O w w' [Ow (eP eI (eP eI eI)) A n c r]) := by
 unfold m_argon_bounds at hm
 refine calls [.agg [I a_Kind, I a_Memory, I a_Passes, I a_Lanes, I a_Tag]] Tryd.func43 rfl (of_decide_eq_true (by kernel_rfl)) ?_
 refine W_seq <| W_reg <| WL_op <| Op_box [] 1 (.agg [I a_Kind, I a_Memory, I a_Passes, I a_Lanes, I a_Tag]) [I a_Kind, I a_Memory, I a_Passes, I a_Lanes, I a_Tag] (by kernel_rfl) k ?_
 intro g w_ k_
 refine WLs 1 [] (.k .z) qe (by kernel_rfl) ?_
 refine WL_nil <| At_go <| W_seq <| W_reg <| WLs 15 [] (.n 5 (.agg [I a_Kind, I 0, I 2]) (.n 8 (.agg [I a_Lanes, I 1, I 8]) (.n 11 (.agg [I a_Passes, I 1, I 16]) (.n 14 (.agg [I a_Tag, I 4, I 1024]) (.n 17 (.agg [I a_Memory, I 8, I 4096]) .z))))) (qs g 0 <| qB k_ 0 rfl 0 (I a_Kind) (by kernel_rfl) <| qs g 0 <| qB k_ 0 rfl 3 (I a_Lanes) (by kernel_rfl) <| qs g 0 <| qB k_ 0 rfl 2 (I a_Passes) (by kernel_rfl) <| qs g 0 <| qB k_ 0 rfl 4 (I a_Tag) (by kernel_rfl) <| qs g 0 <| qB k_ 0 rfl 1 (I a_Memory) (by kernel_rfl) <| qe) (by kernel_rfl) ?_
 refine WL_op <| Op_mk ph_tf76 (eP eI (eP eI eI)) [] 18 ([(a_Kind, (0 : Int), (2 : Int)), (a_Lanes, (1 : Int), (8 : Int)), (a_Passes, (1 : Int), (16 : Int)), (a_Tag, (4 : Int), (1024 : Int)), (a_Memory, (8 : Int), (4096 : Int))] : List (Int × Int × Int)) [(0, .agg [I a_Kind, I 0, I 2]), (1, .agg [I a_Lanes, I 1, I 8]), (2, .agg [I a_Passes, I 1, I 16]), (3, .agg [I a_Tag, I 4, I 1024]), (4, .agg [I a_Memory, I 8, I 4096])] [I a_Kind, I 0, I 2, I a_Lanes, I 1, I 8, I a_Passes, I 1, I 16, I a_Tag, I 4, I 1024, I a_Memory, I 8, I 4096] (by kernel_rfl) (by kernel_rfl) (by kernel_rfl) k_ ?_
 intro A0 w_1 k_1
 refine WLs 1 [] (.n 2 (sl A0 5 5) .z) qe (by kernel_rfl) ?_
 refine WL_nil <| At_go <| W_ret ?_
 obtain rfl := Option.some.inj hm
 refine At_rt [sl A0 5 5] qe (by kernel_rfl) ?_
 have k_2 := k_1.sel (.s (.k .e))
 exact ⟨A0, 5, 5, k_2.len 0 rfl, rfl, k_2⟩

-- quern/argon.may
theorem c_argon_may {F O : Nat → Prop} {w : World} (a_Kind : Int) (a_Memory : Int) (a_Passes : Int) (a_Lanes : Int) (a_Tag : Int) (k : Cx F O w w []) (r : Bool) (hm : m_argon_may a_Kind a_Memory a_Passes a_Lanes a_Tag = some r) :
    Calls Tryd.prog 40 (vals [.agg [I a_Kind, I a_Memory, I a_Passes, I a_Lanes, I a_Tag]]) w (fun e w' => e = .returned (SV.val (.b r)) ∧ Cx F O w w' []) := by
 unfold m_argon_may at hm
 refine calls [.agg [I a_Kind, I a_Memory, I a_Passes, I a_Lanes, I a_Tag]] Tryd.func40 rfl (of_decide_eq_true (by kernel_rfl)) ?_
 refine W_seq <| W_reg <| WL_op <| Op_box [] 1 (.agg [I a_Kind, I a_Memory, I a_Passes, I a_Lanes, I a_Tag]) [I a_Kind, I a_Memory, I a_Passes, I a_Lanes, I a_Tag] (by kernel_rfl) k ?_
 intro g w_ k_
 refine WLs 1 [] (.k .z) qe (by kernel_rfl) ?_
 refine WL_nil <| At_go <| W_seq <| W_seq <| W_reg <| WLs 1 [] (.n 5 (.agg [I a_Kind, I a_Memory, I a_Passes, I a_Lanes, I a_Tag]) .a) (qT k_ 0 rfl 0 5 [I a_Kind, I a_Memory, I a_Passes, I a_Lanes, I a_Tag] (by kernel_rfl) (by decide) <| qe) (by kernel_rfl) ?_
 refine WL_op ?_
 obtain ⟨r_, h_r_, hm⟩ := ob hm
 refine Op_call [] 6 _ ph_go43 (by kernel_rfl) (c_argon_bounds (F := N0) (O := N0) _ _ _ _ _ (Cx.refl _) _ h_r_) ?_
 rintro e_ w_1 ⟨A, _, c, rfl, rfl, k_1⟩
 have k_2 := k_.call k_1
 refine ⟨sl A r_.length c, rfl, ?_⟩
 refine WLs 2 [] (.n 7 (I ((r_.length : Nat) : Int)) (.n 8 (I 0) (.k (.s .a)))) qe (by kernel_rfl) ?_
 refine WL_nil <| At_go <| W_block <| W_lp (m_argon_may_l0 a_Memory a_Lanes r_) (fun s L wr => ∃ (x_0 : Int), x_0 = s ∧ L = [(1, pt g 0), (6, sl A r_.length c), (7, I ((r_.length : Nat) : Int)), (8, I x_0)] ∧ Cx F O w wr [Bx 23 g [I a_Kind, I a_Memory, I a_Passes, I a_Lanes, I a_Tag], Ow (eP eI (eP eI eI)) A r_.length c r_]) (0 : Int) r hm ⟨(0 : Int), rfl, rfl, k_2⟩ (by kernel_rfl) ?_
 intro s0_ L_ w_2 y0 hrel hstep hr0
 obtain ⟨x_0, rfl, rfl, k_3⟩ := hrel
 have hm := hstep; simp only [m_argon_may_l0] at hm
 clear hstep
 refine W_seq <| W_q [] (.n 9 (.b (decide (x_0 < ((r_.length : Nat) : Int)))) .a) qe (by kernel_rfl) ?_
 refine At_go <| W_seq <| W_condp (x_0 < ((r_.length : Nat) : Int)) (by kernel_rfl) (fun hc => ?_) (fun hc => ?_)
 · rw [if_pos hc] at hm
   refine W_skip <| At_go <| W_seq <| W_block <| W_seq <| W_reg ?_
   obtain ⟨x_1, h_x_1, hm⟩ := ob hm
   refine WLs 2 [] (.n 11 (.agg [I x_1.1, I x_1.2.1, I x_1.2.2]) (.s .a)) (qJ (k_3.rd 1 rfl) h_x_1 (k_3.len 1 rfl) <| qR [I x_1.1, I x_1.2.1, I x_1.2.2] (Rd.els (k := 0) (m := 3) (k_3.rd 1 rfl) h_x_1 (Pt.ix1 A x_0 3) rfl (by decide) (by decide)) <| qe) (by kernel_rfl) ?_
   refine WL_op <| Op_alloc [] 4 [I 0, I 0, I 0] (by kernel_rfl) k_3 ?_
   intro g1 w_3 k_4
   refine WL_op <| Op_b [] 2 (.agg [I x_1.1, I x_1.2.1, I x_1.2.2]) [I x_1.1, I x_1.2.1, I x_1.2.2] (Pt.at g1 0) k_4 rfl .all (by kernel_rfl) (by kernel_rfl) ?_
   intro w_4 k_5
   refine WL_nil <| At_go <| W_seq <| W_q [] (.n 23 (.b ((decide (x_1.1 < x_1.2.1)) || (decide (x_1.2.2 < x_1.1)))) (.ss .a)) (qs g1 0 <| qB k_5 2 rfl 0 (I x_1.1) (by kernel_rfl) <| qs g1 0 <| qB k_5 2 rfl 1 (I x_1.2.1) (by kernel_rfl) <| qp ((decide (x_1.1 < x_1.2.1)) = false → (some ⟨g1, 0, none⟩ : Option Addr).isSome = true) (fun hg0 => rfl) <| qo (I x_1.1) <| qc (fun w => (decide (x_1.1 < x_1.2.1)) = false → ∃ a, (some ⟨g1, 0, none⟩ : Option Addr) = some a ∧ w.cell? a = some (SV.val (I x_1.1))) (fun hg0 => k_5.bld 2 rfl 0 (I x_1.1) (by kernel_rfl)) <| qp ((decide (x_1.1 < x_1.2.1)) = false → (some ⟨g1, 0, none⟩ : Option Addr).isSome = true) (fun hg0 => rfl) <| qo (I x_1.2.2) <| qc (fun w => (decide (x_1.1 < x_1.2.1)) = false → ∃ a, (some ⟨g1, 2, none⟩ : Option Addr) = some a ∧ w.cell? a = some (SV.val (I x_1.2.2))) (fun hg0 => k_5.bld 2 rfl 2 (I x_1.2.2) (by kernel_rfl)) <| qe) (by kernel_rfl) ?_
   refine At_go <| W_cond ((decide (x_1.1 < x_1.2.1)) || (decide (x_1.2.2 < x_1.1))) (by kernel_rfl) (fun hc1 => ?_) (fun hc1 => ?_)
   · rw [if_pos hc1] at hm
     refine W_seq <| W_q [] (.n 2 (.b false) .z) qe (by kernel_rfl) ?_
     refine At_go <| W_ret (At_ir (At_tr (At_tr (At_ir (At_tr ?_)))))
     have hm := exit_of hm hr0
     obtain rfl := Option.some.inj hm
     refine At_rt [.b false] qe (by kernel_rfl) ?_
     have k_6 := k_5.sel .z
     exact ⟨rfl, k_6⟩
   rw [if_neg (by rw [hc1]; decide)] at hm
   refine W_skip <| At_in <| At_go <| W_q [] (.n 8 (I (w64 (x_0 + 1))) (.s (.kkk .z))) qe (by kernel_rfl) ?_
   have k_7 := k_5.sel (.kk .z)
   exact At_rd (w64 (x_0 + 1)) (Option.some.inj hm).symm ⟨w64 (x_0 + 1), rfl, rfl, k_7⟩ (by kernel_rfl)
 rw [if_neg hc] at hm
 refine W_exit (At_te (At_te (At_ie ?_)))
 have hm := exit_of hm hr0
 refine At_go <| W_seq <| W_q [] (.n 2 (.b (decide ((w64 (8 * a_Lanes)) ≤ a_Memory))) .z) (qs g 0 <| qB k_3 0 rfl 1 (I a_Memory) (by kernel_rfl) <| qs g 0 <| qB k_3 0 rfl 3 (I a_Lanes) (by kernel_rfl) <| qe) (by kernel_rfl) ?_
 refine At_go <| W_ret ?_
 obtain rfl := Option.some.inj hm
 refine At_rt [.b (decide ((w64 (8 * a_Lanes)) ≤ a_Memory))] qe (by kernel_rfl) ?_
 have k_8 := k_3.sel .z
 exact ⟨rfl, k_8⟩

-- quern/argon.Check
theorem c_argon_Check {F O : Nat → Prop} {w : World} (a_Kind : Int) (a_Memory : Int) (a_Passes : Int) (a_Lanes : Int) (a_Tag : Int) (salt : List UInt8) (A_salt : Option Addr) (n_salt : Nat) (c_salt : Nat) (h_salt : Ro F w A_salt (e8.all salt)) (hn_salt : salt.length = n_salt) (hc_salt : n_salt ≤ c_salt) (k : Cx F O w w []) (r : Int) (hm : m_argon_Check a_Kind a_Memory a_Passes a_Lanes a_Tag salt = some r) :
    Calls Tryd.prog 32 (vals [.agg [I a_Kind, I a_Memory, I a_Passes, I a_Lanes, I a_Tag], sl A_salt n_salt c_salt]) w (fun e w' => e = .returned (SV.val (I r)) ∧ Cx F O w w' []) := by
 unfold m_argon_Check at hm
 subst hn_salt
 refine calls [.agg [I a_Kind, I a_Memory, I a_Passes, I a_Lanes, I a_Tag], sl A_salt salt.length c_salt] Tryd.func32 rfl (of_decide_eq_true (by kernel_rfl)) ?_
 refine W_seq <| W_reg <| WL_op <| Op_box [] 2 (.agg [I a_Kind, I a_Memory, I a_Passes, I a_Lanes, I a_Tag]) [I a_Kind, I a_Memory, I a_Passes, I a_Lanes, I a_Tag] (by kernel_rfl) k ?_
 intro g w_ k_
 refine WLs 1 [] (.k (.s .a)) qe (by kernel_rfl) ?_
 refine WL_nil <| At_go <| W_seq <| W_block <| W_seq <| W_reg <| WLs 1 [] (.n 6 (.agg [I a_Kind, I a_Memory, I a_Passes, I a_Lanes, I a_Tag]) (.s .a)) (qT k_ 0 rfl 0 5 [I a_Kind, I a_Memory, I a_Passes, I a_Lanes, I a_Tag] (by kernel_rfl) (by decide) <| qe) (by kernel_rfl) ?_
 refine WL_op ?_
 obtain ⟨r_, h_r_, hm⟩ := ob hm
 refine Op_call [] 7 _ ph_go40 (by kernel_rfl) (c_argon_may (F := N0) (O := N0) _ _ _ _ _ (Cx.refl _) _ h_r_) ?_
 rintro e_ w_1 ⟨rfl, k_1⟩
 have k_2 := k_.call k_1
 refine ⟨.b r_, rfl, ?_⟩
 have k_3 := k_2.sel .z
 refine WLs 2 [] (.n 5 (.b (!r_)) (.ss .a)) qe (by kernel_rfl) ?_
 refine WL_nil <| At_go <| W_cond (!r_) (by kernel_rfl) (fun hc => ?_) (fun hc => ?_)
 · rw [if_pos hc] at hm
   refine W_seq <| W_q [] (.n 4 (I 200) .z) qe (by kernel_rfl) ?_
   refine At_go <| W_ret (At_ir (At_tr ?_))
   obtain rfl := Option.some.inj hm
   refine At_rt [I 200] qe (by kernel_rfl) ?_
   exact ⟨rfl, k_3⟩
 rw [if_neg (by rw [hc]; decide)] at hm
 refine W_seq <| W_q [] (.n 9 (.b ((decide (((salt.length : Nat) : Int) < 8)) || (decide (64 < ((salt.length : Nat) : Int))))) .z) qe (by kernel_rfl) ?_
 refine At_go <| W_cond ((decide (((salt.length : Nat) : Int) < 8)) || (decide (64 < ((salt.length : Nat) : Int)))) (by kernel_rfl) (fun hc1 => ?_) (fun hc1 => ?_)
 · rw [if_pos hc1] at hm
   refine W_seq <| W_q [] (.n 4 (I 201) .z) qe (by kernel_rfl) ?_
   refine At_go <| W_ret (At_ir (At_tr ?_))
   obtain rfl := Option.some.inj hm
   refine At_rt [I 201] qe (by kernel_rfl) ?_
   exact ⟨rfl, k_3⟩
 rw [if_neg (by rw [hc1]; decide)] at hm
 refine W_skip <| At_in <| At_go <| W_seq <| W_q [] (.n 4 (I 0) .z) qe (by kernel_rfl) ?_
 refine At_go <| W_ret ?_
 obtain rfl := Option.some.inj hm
 refine At_rt [I 0] qe (by kernel_rfl) ?_
 exact ⟨rfl, k_3⟩

-- quern/pass.check
theorem c_pass_check {F O : Nat → Prop} {w : World} (t_Argon_Kind : Int) (t_Argon_Memory : Int) (t_Argon_Passes : Int) (t_Argon_Lanes : Int) (t_Argon_Tag : Int) (t_Salt : List UInt8) (t_Sum : List UInt8) (A_t_Salt : Option Addr) (n_t_Salt : Nat) (c_t_Salt : Nat) (A_t_Sum : Option Addr) (n_t_Sum : Nat) (c_t_Sum : Nat) (h_t_Salt : Ro F w A_t_Salt (e8.all t_Salt)) (hn_t_Salt : t_Salt.length = n_t_Salt) (hc_t_Salt : n_t_Salt ≤ c_t_Salt) (h_t_Sum : Ro F w A_t_Sum (e8.all t_Sum)) (hn_t_Sum : t_Sum.length = n_t_Sum) (hc_t_Sum : n_t_Sum ≤ c_t_Sum) (k : Cx F O w w []) (r : Int) (hm : m_pass_check t_Argon_Kind t_Argon_Memory t_Argon_Passes t_Argon_Lanes t_Argon_Tag t_Salt t_Sum = some r) :
    Calls Tryd.prog 12 (vals [.agg [I t_Argon_Kind, I t_Argon_Memory, I t_Argon_Passes, I t_Argon_Lanes, I t_Argon_Tag, sl A_t_Salt n_t_Salt c_t_Salt, sl A_t_Sum n_t_Sum c_t_Sum]]) w (fun e w' => e = .returned (SV.val (I r)) ∧ Cx F O w w' []) := by
 unfold m_pass_check at hm
 subst hn_t_Salt
 subst hn_t_Sum
 refine calls [.agg [I t_Argon_Kind, I t_Argon_Memory, I t_Argon_Passes, I t_Argon_Lanes, I t_Argon_Tag, sl A_t_Salt t_Salt.length c_t_Salt, sl A_t_Sum t_Sum.length c_t_Sum]] Tryd.func12 rfl (of_decide_eq_true (by kernel_rfl)) ?_
 refine W_seq <| W_reg <| WL_op <| Op_box [] 1 (.agg [I t_Argon_Kind, I t_Argon_Memory, I t_Argon_Passes, I t_Argon_Lanes, I t_Argon_Tag, sl A_t_Salt t_Salt.length c_t_Salt, sl A_t_Sum t_Sum.length c_t_Sum]) [I t_Argon_Kind, I t_Argon_Memory, I t_Argon_Passes, I t_Argon_Lanes, I t_Argon_Tag, sl A_t_Salt t_Salt.length c_t_Salt, sl A_t_Sum t_Sum.length c_t_Sum] (by kernel_rfl) k ?_
 intro g w_ k_
 refine WLs 1 [] (.k .z) qe (by kernel_rfl) ?_
 refine WL_nil <| At_go <| W_seq <| W_seq <| W_reg <| WLs 4 [] (.n 5 (.agg [I t_Argon_Kind, I t_Argon_Memory, I t_Argon_Passes, I t_Argon_Lanes, I t_Argon_Tag]) (.n 7 (sl A_t_Salt t_Salt.length c_t_Salt) .a)) (qs g 0 <| qT k_ 0 rfl 0 5 [I t_Argon_Kind, I t_Argon_Memory, I t_Argon_Passes, I t_Argon_Lanes, I t_Argon_Tag] (by kernel_rfl) (by decide) <| qs g 0 <| qB k_ 0 rfl 5 (sl A_t_Salt t_Salt.length c_t_Salt) (by kernel_rfl) <| qe) (by kernel_rfl) ?_
 refine WL_op ?_
 obtain ⟨r_, h_r_, hm⟩ := ob hm
 refine Op_call [] 8 _ ph_go32 (by kernel_rfl) (c_argon_Check (F := N0) (O := N0) _ _ _ _ _ _ _ _ _ (Ro.n0 (h_t_Salt.cx k_)) rfl hc_t_Salt (Cx.refl _) _ h_r_) ?_
 rintro e_ w_1 ⟨rfl, k_1⟩
 have k_2 := k_.call k_1
 refine ⟨I r_, rfl, ?_⟩
 refine WLs 1 [] (.n 3 (I r_) (.sss .a)) qe (by kernel_rfl) ?_
 refine WL_nil <| At_go <| W_seq <| W_q [] (.n 10 (.b (decide (r_ ≠ 0))) .a) qe (by kernel_rfl) ?_
 refine At_go <| W_condp (r_ ≠ 0) (by kernel_rfl) (fun hc => ?_) (fun hc => ?_)
 · rw [if_pos hc] at hm
   refine W_seq <| W_q [] (.n 2 (I r_) .z) qe (by kernel_rfl) ?_
   refine At_go <| W_ret (At_tr ?_)
   obtain rfl := Option.some.inj hm
   refine At_rt [I r_] qe (by kernel_rfl) ?_
   have k_3 := k_2.sel .z
   exact ⟨rfl, k_3⟩
 rw [if_neg hc] at hm
 refine W_skip <| At_go <| W_seq <| W_seq <| W_q [] (.n 18 (.b (decide (((t_Sum.length : Nat) : Int) ≠ t_Argon_Tag))) .z) (qs g 0 <| qB k_2 0 rfl 6 (sl A_t_Sum t_Sum.length c_t_Sum) (by kernel_rfl) <| qs g 0 <| qs g 0 <| qB k_2 0 rfl 4 (I t_Argon_Tag) (by kernel_rfl) <| qe) (by kernel_rfl) ?_
 refine At_go <| W_condp (((t_Sum.length : Nat) : Int) ≠ t_Argon_Tag) (by kernel_rfl) (fun hc1 => ?_) (fun hc1 => ?_)
 · rw [if_pos hc1] at hm
   refine W_seq <| W_q [] (.n 2 (I 1) .z) qe (by kernel_rfl) ?_
   refine At_go <| W_ret (At_tr ?_)
   obtain rfl := Option.some.inj hm
   refine At_rt [I 1] qe (by kernel_rfl) ?_
   have k_4 := k_2.sel .z
   exact ⟨rfl, k_4⟩
 rw [if_neg hc1] at hm
 refine W_skip <| At_go <| W_seq <| W_q [] (.n 2 (I 0) .z) qe (by kernel_rfl) ?_
 refine At_go <| W_ret ?_
 obtain rfl := Option.some.inj hm
 refine At_rt [I 0] qe (by kernel_rfl) ?_
 have k_5 := k_2.sel .z
 exact ⟨rfl, k_5⟩

-- quern/pass.Parse
theorem c_pass_Parse {F O : Nat → Prop} {w : World} (s_ : List UInt8) (k : Cx F O w w []) (r : (Int × Int × Int × Int × Int × List UInt8 × List UInt8 × Int × Int)) (hm : m_pass_Parse s_ = some r) :
    Calls Tryd.prog 7 (vals [.s s_]) w (fun e w' => ∃ A n c A1 n1 c1, r.2.2.2.2.2.1.length = n ∧ r.2.2.2.2.2.2.1.length = n1 ∧ e = .returned (SV.val (.tup [.agg [I r.1, I r.2.1, I r.2.2.1, I r.2.2.2.1, I r.2.2.2.2.1, sl A n c, sl A1 n1 c1], I r.2.2.2.2.2.2.2.1, I r.2.2.2.2.2.2.2.2])) ∧ Cx F O w w' [Ow e8 A n c r.2.2.2.2.2.1, Ow e8 A1 n1 c1 r.2.2.2.2.2.2.1]) := by
 unfold m_pass_Parse at hm
 refine calls [.s s_] Tryd.func7 rfl (of_decide_eq_true (by kernel_rfl)) ?_
 refine W_seq <| W_reg <| WL_op <| Op_alloc [] 2 [I 0, I 0, I 0, I 0, I 0, sl none 0 0, sl none 0 0] (by kernel_rfl) k ?_
 intro g w_ k_
 refine WLs 2 [] .a qe (by kernel_rfl) ?_
 refine WL_nil <| At_go <| W_seq <| W_reg <| WLs 2 [] (.n 13 (.agg [.s s_, I 0, .b true]) .a) qe (by kernel_rfl) ?_
 refine WL_op <| Op_box [] 14 (.agg [.s s_, I 0, .b true]) [.s s_, I 0, .b true] (by kernel_rfl) k_ ?_
 intro g1 w_1 k_1
 refine WLs 1 [] (.n 5 (pt g1 0) (.ss .a)) qe (by kernel_rfl) ?_
 refine WL_nil <| At_go <| W_seq <| W_reg <| WL_op <| Op_alloc [] 6 [I 0, I 0, I 0, I 0, I 0, sl none 0 0, sl none 0 0] (by kernel_rfl) k_1 ?_
 intro g2 w_2 k_2
 refine WL_nil <| At_go <| W_seq <| W_reg <| WLs 1 [] (.n 15 (pt g1 0) .a) qe (by kernel_rfl) ?_
 refine WL_op ?_
 obtain ⟨r_, h_r_, hm⟩ := ob hm
 obtain ⟨F1, O1, kin, hO, hre, hF, hb⟩ := k_2.go (.r (.i (.r .e)))
 refine Op_call [] 16 _ ph_go18 (by kernel_rfl) (c_pass_pen_lit (F := F1) (O := O1) _ _ _ _ _ kin _ h_r_) ?_
 rintro e_ w_3 ⟨rfl, k_3⟩
 have k_4 := hb w_3 _ _ k_3 (.c .n)
 refine ⟨.tup [], rfl, ?_⟩
 refine WL_nil <| At_go <| W_cut (fun L wr => ∃ (p : List UInt8) (p1 : Int) (p2 : Bool) (t : Int), m_pass_Parse_j0 s_ p p1 p2 t = some r ∧ L = [(0, .s s_), (2, pt g 0), (5, pt g1 0), (6, pt g2 0)] ∧ Cx F O w wr [Bx 26 g [I 0, I 0, I 0, I 0, I 0, sl none 0 0, sl none 0 0], Bx 48 g1 [.s p, I p1, .b p2], Bx 26 g2 [I t, I 0, I 0, I 0, I 0, sl none 0 0, sl none 0 0]]) ?_ ?_
 ·
  refine W_block <| W_seq <| W_reg <| WLs 5 [] (.n 24 (.b r_.2.2) (.ss .a)) (qs g1 0 <| qs g1 0 <| qB k_4 0 rfl 2 (.b r_.2.2) (by kernel_rfl) <| qe) (by kernel_rfl) ?_
  refine WL_sp 24 r_.2.2 (.s .a) (by kernel_rfl) (fun hg => ?_) (fun hg => ?_)
  · rw [if_pos hg] at hm
    obtain ⟨s_1, h_s_1, hm⟩ := ob hm
    have hs := slc_some h_s_1
    refine WLs 6 [24] (.n 30 (.s s_1) .a) (qs g1 0 <| qs g1 0 <| qB k_4 0 rfl 1 (I r_.2.1) (by kernel_rfl) <| qp (0 ≤ r_.2.1 ∧ r_.2.1 ≤ ((s_.length : Nat) : Int)) (by omega) <| qo (.s s_1) <| qp ((s_.take s_.length).drop (Int.toNat r_.2.1) = s_1) hs.2.2.2.symm <| qe) (by kernel_rfl) ?_
    refine WL_op ?_
    have k_5 := k_4.sel (.kk (.k .e))
    obtain ⟨r_1, h_r_1, hm⟩ := ob hm
    refine Op_call [24] 31 _ ph_go19 (by kernel_rfl) (c_strings_HasPrefix (F := N0) (O := N0) _ _ (Cx.refl _) _ h_r_1) ?_
    rintro e_ w_4 ⟨rfl, k_6⟩
    have k_7 := k_5.call k_6
    refine ⟨.b r_1, rfl, ?_⟩
    refine WLs 2 [24] (.n 19 (.b r_1) (.sss .a)) qe (by kernel_rfl) ?_
    refine WL_nil <| At_go <| W_cond r_1 (by kernel_rfl) (fun hc => ?_) (fun hc => ?_)
    · rw [if_pos hc] at hm
      refine W_seq <| W_reg <| WLs 2 [] (.n 34 (pt g2 0) (.s .a)) (qs g2 0 <| qs g2 0 <| qe) (by kernel_rfl) ?_
      refine WL_op <| Op_b [] 2 (I 2) [I 2] (Pt.at g2 0) k_7 rfl .h (by kernel_rfl) (by kernel_rfl) ?_
      intro w_5 k_8
      refine WL_nil <| At_go <| W_reg <| WLs 7 [] (.n 39 (I (w64 (r_.2.1 + 2))) (.n 41 (pt g1 1) (.s .a))) (qs g1 0 <| qs g1 0 <| qB k_8 0 rfl 1 (I r_.2.1) (by kernel_rfl) <| qs g1 0 <| qs g1 0 <| qe) (by kernel_rfl) ?_
      refine WL_op <| Op_b [] 0 (I (w64 (r_.2.1 + 2))) [I (w64 (r_.2.1 + 2))] (Pt.at g1 1) k_8 rfl (.k .h) (by kernel_rfl) (by kernel_rfl) ?_
      intro w_6 k_9
      refine WL_nil <| At_in ?_
      have k_10 := ((k_9.pk (.t (.t .h))).pk (.t .h)).pk (.t (.t .h))
      exact At_c ⟨r_.1, w64 (r_.2.1 + 2), r_.2.2, (2 : Int), hm, rfl, k_10⟩ (by kernel_rfl)
    rw [if_neg (by rw [hc]; decide)] at hm
    refine W_seq <| W_reg <| WLs 5 [] (.n 47 (.b r_.2.2) (.s .a)) (qs g1 0 <| qs g1 0 <| qB k_7 0 rfl 2 (.b r_.2.2) (by kernel_rfl) <| qe) (by kernel_rfl) ?_
    refine WL_sp 47 r_.2.2 (.s .a) (by kernel_rfl) (fun hg1 => ?_) (fun hg1 => ?_)
    · rw [if_pos hg1] at hm
      obtain ⟨s_2, h_s_2, hm⟩ := ob hm
      have hs1 := slc_some h_s_2
      refine WLs 6 [47] (.n 53 (.s s_2) .a) (qs g1 0 <| qs g1 0 <| qB k_7 0 rfl 1 (I r_.2.1) (by kernel_rfl) <| qp (0 ≤ r_.2.1 ∧ r_.2.1 ≤ ((s_.length : Nat) : Int)) (by omega) <| qo (.s s_2) <| qp ((s_.take s_.length).drop (Int.toNat r_.2.1) = s_2) hs1.2.2.2.symm <| qe) (by kernel_rfl) ?_
      refine WL_op ?_
      obtain ⟨r_2, h_r_2, hm⟩ := ob hm
      refine Op_call [47] 54 _ ph_go19 (by kernel_rfl) (c_strings_HasPrefix (F := N0) (O := N0) _ _ (Cx.refl _) _ h_r_2) ?_
      rintro e_ w_7 ⟨rfl, k_11⟩
      have k_12 := k_7.call k_11
      refine ⟨.b r_2, rfl, ?_⟩
      refine WLs 2 [47] (.n 42 (.b r_2) (.sss .a)) qe (by kernel_rfl) ?_
      refine WL_nil <| At_go <| W_cond r_2 (by kernel_rfl) (fun hc1 => ?_) (fun hc1 => ?_)
      · rw [if_pos hc1] at hm
        refine W_seq <| W_reg <| WLs 2 [] (.n 57 (pt g2 0) (.s .a)) (qs g2 0 <| qs g2 0 <| qe) (by kernel_rfl) ?_
        refine WL_op <| Op_b [] 2 (I 1) [I 1] (Pt.at g2 0) k_12 rfl .h (by kernel_rfl) (by kernel_rfl) ?_
        intro w_8 k_13
        refine WL_nil <| At_go <| W_reg <| WLs 7 [] (.n 62 (I (w64 (r_.2.1 + 1))) (.n 64 (pt g1 1) (.s .a))) (qs g1 0 <| qs g1 0 <| qB k_13 0 rfl 1 (I r_.2.1) (by kernel_rfl) <| qs g1 0 <| qs g1 0 <| qe) (by kernel_rfl) ?_
        refine WL_op <| Op_b [] 0 (I (w64 (r_.2.1 + 1))) [I (w64 (r_.2.1 + 1))] (Pt.at g1 1) k_13 rfl (.k .h) (by kernel_rfl) (by kernel_rfl) ?_
        intro w_9 k_14
        refine WL_nil <| At_in ?_
        have k_15 := ((k_14.pk (.t (.t .h))).pk (.t .h)).pk (.t (.t .h))
        exact At_c ⟨r_.1, w64 (r_.2.1 + 1), r_.2.2, (1 : Int), hm, rfl, k_15⟩ (by kernel_rfl)
      rw [if_neg (by rw [hc1]; decide)] at hm
      refine W_reg <| WLs 1 [] (.n 17 (pt g1 0) (.s .a)) qe (by kernel_rfl) ?_
      refine WL_op ?_
      obtain ⟨r_3, h_r_3, hm⟩ := ob hm
      obtain ⟨F11, O11, kin1, hO1, hre1, hF1, hb1⟩ := k_12.go (.i (.r (.r .e)))
      refine Op_call [] 18 _ ph_go18 (by kernel_rfl) (c_pass_pen_lit (F := F11) (O := O11) _ _ _ _ _ kin1 _ h_r_3) ?_
      rintro e_ w_10 ⟨rfl, k_16⟩
      have k_17 := hb1 w_10 _ _ k_16 (.c .n)
      refine ⟨.tup [], rfl, ?_⟩
      refine WL_nil <| At_in ?_
      have k_18 := ((k_17.pk (.t (.t .h))).pk (.t .h)).pk (.t (.t .h))
      exact At_c ⟨r_3.1, r_3.2.1, r_3.2.2, (0 : Int), hm, rfl, k_18⟩ (by kernel_rfl)
    · rw [if_neg (by rw [hg1]; decide)] at hm
      refine WLs 9 [47] (.n 42 (.b false) (.s .a)) qe (by kernel_rfl) ?_
      refine WL_nil <| At_go <| W_cond false (by kernel_rfl) (fun h => by cases h) (fun _ => ?_)
      refine W_reg <| WLs 1 [] (.n 17 (pt g1 0) (.s .a)) qe (by kernel_rfl) ?_
      refine WL_op ?_
      obtain ⟨r_4, h_r_4, hm⟩ := ob hm
      obtain ⟨F12, O12, kin2, hO2, hre2, hF2, hb2⟩ := k_7.go (.i (.r (.r .e)))
      refine Op_call [] 18 _ ph_go18 (by kernel_rfl) (c_pass_pen_lit (F := F12) (O := O12) _ _ _ _ _ kin2 _ h_r_4) ?_
      rintro e_ w_11 ⟨rfl, k_19⟩
      have k_20 := hb2 w_11 _ _ k_19 (.c .n)
      refine ⟨.tup [], rfl, ?_⟩
      refine WL_nil <| At_in ?_
      have k_21 := ((k_20.pk (.t (.t .h))).pk (.t .h)).pk (.t (.t .h))
      exact At_c ⟨r_4.1, r_4.2.1, r_4.2.2, (0 : Int), hm, rfl, k_21⟩ (by kernel_rfl)
  · rw [if_neg (by rw [hg]; decide)] at hm
    refine WLs 9 [24] (.n 19 (.b false) (.s .a)) qe (by kernel_rfl) ?_
    refine WL_nil <| At_go <| W_cond false (by kernel_rfl) (fun h => by cases h) (fun _ => ?_)
    refine W_seq <| W_reg <| WLs 5 [] (.n 47 (.b r_.2.2) (.s .a)) (qs g1 0 <| qs g1 0 <| qB k_4 0 rfl 2 (.b r_.2.2) (by kernel_rfl) <| qe) (by kernel_rfl) ?_
    refine WL_sp 47 r_.2.2 (.s .a) (by kernel_rfl) (fun hg2 => ?_) (fun hg2 => ?_)
    · rw [if_pos hg2] at hm
      obtain ⟨s_3, h_s_3, hm⟩ := ob hm
      have hs2 := slc_some h_s_3
      refine WLs 6 [47] (.n 53 (.s s_3) .a) (qs g1 0 <| qs g1 0 <| qB k_4 0 rfl 1 (I r_.2.1) (by kernel_rfl) <| qp (0 ≤ r_.2.1 ∧ r_.2.1 ≤ ((s_.length : Nat) : Int)) (by omega) <| qo (.s s_3) <| qp ((s_.take s_.length).drop (Int.toNat r_.2.1) = s_3) hs2.2.2.2.symm <| qe) (by kernel_rfl) ?_
      refine WL_op ?_
      have k_22 := k_4.sel (.kk (.k .e))
      obtain ⟨r_5, h_r_5, hm⟩ := ob hm
      refine Op_call [47] 54 _ ph_go19 (by kernel_rfl) (c_strings_HasPrefix (F := N0) (O := N0) _ _ (Cx.refl _) _ h_r_5) ?_
      rintro e_ w_12 ⟨rfl, k_23⟩
      have k_24 := k_22.call k_23
      refine ⟨.b r_5, rfl, ?_⟩
      refine WLs 2 [47] (.n 42 (.b r_5) (.sss .a)) qe (by kernel_rfl) ?_
      refine WL_nil <| At_go <| W_cond r_5 (by kernel_rfl) (fun hc2 => ?_) (fun hc2 => ?_)
      · rw [if_pos hc2] at hm
        refine W_seq <| W_reg <| WLs 2 [] (.n 57 (pt g2 0) (.s .a)) (qs g2 0 <| qs g2 0 <| qe) (by kernel_rfl) ?_
        refine WL_op <| Op_b [] 2 (I 1) [I 1] (Pt.at g2 0) k_24 rfl .h (by kernel_rfl) (by kernel_rfl) ?_
        intro w_13 k_25
        refine WL_nil <| At_go <| W_reg <| WLs 7 [] (.n 62 (I (w64 (r_.2.1 + 1))) (.n 64 (pt g1 1) (.s .a))) (qs g1 0 <| qs g1 0 <| qB k_25 0 rfl 1 (I r_.2.1) (by kernel_rfl) <| qs g1 0 <| qs g1 0 <| qe) (by kernel_rfl) ?_
        refine WL_op <| Op_b [] 0 (I (w64 (r_.2.1 + 1))) [I (w64 (r_.2.1 + 1))] (Pt.at g1 1) k_25 rfl (.k .h) (by kernel_rfl) (by kernel_rfl) ?_
        intro w_14 k_26
        refine WL_nil <| At_in ?_
        have k_27 := ((k_26.pk (.t (.t .h))).pk (.t .h)).pk (.t (.t .h))
        exact At_c ⟨r_.1, w64 (r_.2.1 + 1), r_.2.2, (1 : Int), hm, rfl, k_27⟩ (by kernel_rfl)
      rw [if_neg (by rw [hc2]; decide)] at hm
      refine W_reg <| WLs 1 [] (.n 17 (pt g1 0) (.s .a)) qe (by kernel_rfl) ?_
      refine WL_op ?_
      obtain ⟨r_6, h_r_6, hm⟩ := ob hm
      obtain ⟨F13, O13, kin3, hO3, hre3, hF3, hb3⟩ := k_24.go (.i (.r (.r .e)))
      refine Op_call [] 18 _ ph_go18 (by kernel_rfl) (c_pass_pen_lit (F := F13) (O := O13) _ _ _ _ _ kin3 _ h_r_6) ?_
      rintro e_ w_15 ⟨rfl, k_28⟩
      have k_29 := hb3 w_15 _ _ k_28 (.c .n)
      refine ⟨.tup [], rfl, ?_⟩
      refine WL_nil <| At_in ?_
      have k_30 := ((k_29.pk (.t (.t .h))).pk (.t .h)).pk (.t (.t .h))
      exact At_c ⟨r_6.1, r_6.2.1, r_6.2.2, (0 : Int), hm, rfl, k_30⟩ (by kernel_rfl)
    · rw [if_neg (by rw [hg2]; decide)] at hm
      refine WLs 9 [47] (.n 42 (.b false) (.s .a)) qe (by kernel_rfl) ?_
      refine WL_nil <| At_go <| W_cond false (by kernel_rfl) (fun h => by cases h) (fun _ => ?_)
      refine W_reg <| WLs 1 [] (.n 17 (pt g1 0) (.s .a)) qe (by kernel_rfl) ?_
      refine WL_op ?_
      have k_31 := k_4.sel (.kk (.k .e))
      obtain ⟨r_7, h_r_7, hm⟩ := ob hm
      obtain ⟨F14, O14, kin4, hO4, hre4, hF4, hb4⟩ := k_31.go (.i (.r (.r .e)))
      refine Op_call [] 18 _ ph_go18 (by kernel_rfl) (c_pass_pen_lit (F := F14) (O := O14) _ _ _ _ _ kin4 _ h_r_7) ?_
      rintro e_ w_16 ⟨rfl, k_32⟩
      have k_33 := hb4 w_16 _ _ k_32 (.c .n)
      refine ⟨.tup [], rfl, ?_⟩
      refine WL_nil <| At_in ?_
      have k_34 := ((k_33.pk (.t (.t .h))).pk (.t .h)).pk (.t (.t .h))
      exact At_c ⟨r_7.1, r_7.2.1, r_7.2.2, (0 : Int), hm, rfl, k_34⟩ (by kernel_rfl)
 rintro L_ w_17 ⟨p, p1, p2, t, hm, rfl, k_35⟩
 simp only [m_pass_Parse_j0] at hm
 refine W_seq <| W_reg <| WLs 1 [] (.n 65 (pt g1 0) .a) qe (by kernel_rfl) ?_
 refine WL_op ?_
 obtain ⟨r_8, h_r_8, hm⟩ := ob hm
 obtain ⟨F15, O15, kin5, hO5, hre5, hF5, hb5⟩ := k_35.go (.r (.i (.r .e)))
 refine Op_call [] 66 _ ph_go18 (by kernel_rfl) (c_pass_pen_lit (F := F15) (O := O15) _ _ _ _ _ kin5 _ h_r_8) ?_
 rintro e_ w_18 ⟨rfl, k_36⟩
 have k_37 := hb5 w_18 _ _ k_36 (.c .n)
 refine ⟨.tup [], rfl, ?_⟩
 refine WL_nil <| At_go <| W_seq <| W_reg <| WLs 1 [] (.n 67 (pt g1 0) (.ss .a)) qe (by kernel_rfl) ?_
 refine WL_op ?_
 obtain ⟨r_9, h_r_9, hm⟩ := ob hm
 obtain ⟨F16, O16, kin6, hO6, hre6, hF6, hb6⟩ := k_37.go (.i (.r (.r .e)))
 refine Op_call [] 68 _ ph_go21 (by kernel_rfl) (c_pass_pen_number (F := F16) (O := O16) _ _ _ _ kin6 _ h_r_9) ?_
 rintro e_ w_19 ⟨rfl, k_38⟩
 have k_39 := hb6 w_19 _ _ k_38 (.c .n)
 refine ⟨.u64 r_9.1, rfl, ?_⟩
 refine WL_op ?_
 obtain ⟨r_10, h_r_10, hm⟩ := ob hm
 refine Op_call [] 69 _ ph_go20 (by kernel_rfl) (c_pass_whole (F := N0) (O := N0) _ (Cx.refl _) _ h_r_10) ?_
 rintro e_ w_20 ⟨rfl, k_40⟩
 have k_41 := k_39.call k_40
 refine ⟨I r_10, rfl, ?_⟩
 refine WLs 2 [] (.n 71 (pt g2 1) (.k (.ss .a))) (qs g2 0 <| qs g2 0 <| qe) (by kernel_rfl) ?_
 refine WL_op <| Op_b [] 2 (I r_10) [I r_10] (Pt.at g2 1) k_41 rfl (.k .h) (by kernel_rfl) (by kernel_rfl) ?_
 intro w_21 k_42
 refine WL_nil <| At_go <| W_seq <| W_reg <| WLs 1 [] (.n 72 (pt g1 0) (.ss .a)) qe (by kernel_rfl) ?_
 refine WL_op ?_
 have k_43 := k_42.sel (.kk (.k .e))
 obtain ⟨r_11, h_r_11, hm⟩ := ob hm
 obtain ⟨F17, O17, kin7, hO7, hre7, hF7, hb7⟩ := k_43.go (.i (.r (.r .e)))
 refine Op_call [] 73 _ ph_go18 (by kernel_rfl) (c_pass_pen_lit (F := F17) (O := O17) _ _ _ _ _ kin7 _ h_r_11) ?_
 rintro e_ w_22 ⟨rfl, k_44⟩
 have k_45 := hb7 w_22 _ _ k_44 (.c .n)
 refine ⟨.tup [], rfl, ?_⟩
 refine WL_nil <| At_go <| W_seq <| W_reg <| WLs 1 [] (.n 74 (pt g1 0) (.ss .a)) qe (by kernel_rfl) ?_
 refine WL_op ?_
 obtain ⟨r_12, h_r_12, hm⟩ := ob hm
 obtain ⟨F18, O18, kin8, hO8, hre8, hF8, hb8⟩ := k_45.go (.i (.r (.r .e)))
 refine Op_call [] 75 _ ph_go21 (by kernel_rfl) (c_pass_pen_number (F := F18) (O := O18) _ _ _ _ kin8 _ h_r_12) ?_
 rintro e_ w_23 ⟨rfl, k_46⟩
 have k_47 := hb8 w_23 _ _ k_46 (.c .n)
 refine ⟨.u64 r_12.1, rfl, ?_⟩
 refine WL_op ?_
 obtain ⟨r_13, h_r_13, hm⟩ := ob hm
 refine Op_call [] 76 _ ph_go20 (by kernel_rfl) (c_pass_whole (F := N0) (O := N0) _ (Cx.refl _) _ h_r_13) ?_
 rintro e_ w_24 ⟨rfl, k_48⟩
 have k_49 := k_47.call k_48
 refine ⟨I r_13, rfl, ?_⟩
 refine WLs 2 [] (.n 78 (pt g2 2) (.k (.ss .a))) (qs g2 0 <| qs g2 0 <| qe) (by kernel_rfl) ?_
 refine WL_op <| Op_b [] 2 (I r_13) [I r_13] (Pt.at g2 2) k_49 rfl (.kk .h) (by kernel_rfl) (by kernel_rfl) ?_
 intro w_25 k_50
 refine WL_nil <| At_go <| W_seq <| W_reg <| WLs 1 [] (.n 79 (pt g1 0) (.ss .a)) qe (by kernel_rfl) ?_
 refine WL_op ?_
 have k_51 := k_50.sel (.kk (.k .e))
 obtain ⟨r_14, h_r_14, hm⟩ := ob hm
 obtain ⟨F19, O19, kin9, hO9, hre9, hF9, hb9⟩ := k_51.go (.i (.r (.r .e)))
 refine Op_call [] 80 _ ph_go18 (by kernel_rfl) (c_pass_pen_lit (F := F19) (O := O19) _ _ _ _ _ kin9 _ h_r_14) ?_
 rintro e_ w_26 ⟨rfl, k_52⟩
 have k_53 := hb9 w_26 _ _ k_52 (.c .n)
 refine ⟨.tup [], rfl, ?_⟩
 refine WL_nil <| At_go <| W_seq <| W_reg <| WLs 1 [] (.n 81 (pt g1 0) (.ss .a)) qe (by kernel_rfl) ?_
 refine WL_op ?_
 obtain ⟨r_15, h_r_15, hm⟩ := ob hm
 obtain ⟨F110, O110, kin10, hO10, hre10, hF10, hb10⟩ := k_53.go (.i (.r (.r .e)))
 refine Op_call [] 82 _ ph_go21 (by kernel_rfl) (c_pass_pen_number (F := F110) (O := O110) _ _ _ _ kin10 _ h_r_15) ?_
 rintro e_ w_27 ⟨rfl, k_54⟩
 have k_55 := hb10 w_27 _ _ k_54 (.c .n)
 refine ⟨.u64 r_15.1, rfl, ?_⟩
 refine WL_op ?_
 obtain ⟨r_16, h_r_16, hm⟩ := ob hm
 refine Op_call [] 83 _ ph_go20 (by kernel_rfl) (c_pass_whole (F := N0) (O := N0) _ (Cx.refl _) _ h_r_16) ?_
 rintro e_ w_28 ⟨rfl, k_56⟩
 have k_57 := k_55.call k_56
 refine ⟨I r_16, rfl, ?_⟩
 refine WLs 2 [] (.n 85 (pt g2 3) (.k (.ss .a))) (qs g2 0 <| qs g2 0 <| qe) (by kernel_rfl) ?_
 refine WL_op <| Op_b [] 2 (I r_16) [I r_16] (Pt.at g2 3) k_57 rfl (.kk (.k .h)) (by kernel_rfl) (by kernel_rfl) ?_
 intro w_29 k_58
 refine WL_nil <| At_go <| W_seq <| W_reg <| WLs 1 [] (.n 86 (pt g1 0) (.ss .a)) qe (by kernel_rfl) ?_
 refine WL_op ?_
 have k_59 := k_58.sel (.kk (.k .e))
 obtain ⟨r_17, h_r_17, hm⟩ := ob hm
 obtain ⟨F111, O111, kin11, hO11, hre11, hF11, hb11⟩ := k_59.go (.i (.r (.r .e)))
 refine Op_call [] 87 _ ph_go18 (by kernel_rfl) (c_pass_pen_lit (F := F111) (O := O111) _ _ _ _ _ kin11 _ h_r_17) ?_
 rintro e_ w_30 ⟨rfl, k_60⟩
 have k_61 := hb11 w_30 _ _ k_60 (.c .n)
 refine ⟨.tup [], rfl, ?_⟩
 refine WL_nil <| At_go <| W_seq <| W_reg <| WLs 1 [] (.n 89 (pt g1 0) (.ss .a)) qe (by kernel_rfl) ?_
 refine WL_op ?_
 obtain ⟨r_18, h_r_18, hm⟩ := ob hm
 obtain ⟨F112, O112, kin12, hO12, hre12, hF12, hb12⟩ := k_61.go (.i (.r (.r .e)))
 refine Op_call [] 90 _ ph_go22 (by kernel_rfl) (c_pass_pen_letters (F := F112) (O := O112) _ _ _ _ kin12 _ h_r_18) ?_
 rintro e_ w_31 ⟨rfl, k_62⟩
 have k_63 := hb12 w_31 _ _ k_62 (.c .n)
 refine ⟨.tup [.s r_18.1, I r_18.2.1], rfl, ?_⟩
 refine WLs 5 [] (.n 7 (.s r_18.1) (.n 8 (I r_18.2.1) (.ss .a))) qe (by kernel_rfl) ?_
 refine WL_nil <| At_go <| W_seq <| W_reg <| WLs 1 [] (.n 93 (pt g1 0) .a) qe (by kernel_rfl) ?_
 refine WL_op ?_
 obtain ⟨r_19, h_r_19, hm⟩ := ob hm
 obtain ⟨F113, O113, kin13, hO13, hre13, hF13, hb13⟩ := k_63.go (.i (.r (.r .e)))
 refine Op_call [] 94 _ ph_go18 (by kernel_rfl) (c_pass_pen_lit (F := F113) (O := O113) _ _ _ _ _ kin13 _ h_r_19) ?_
 rintro e_ w_32 ⟨rfl, k_64⟩
 have k_65 := hb13 w_32 _ _ k_64 (.c .n)
 refine ⟨.tup [], rfl, ?_⟩
 refine WL_nil <| At_go <| W_seq <| W_reg <| WLs 1 [] (.n 96 (pt g1 0) (.ss .a)) qe (by kernel_rfl) ?_
 refine WL_op ?_
 obtain ⟨r_20, h_r_20, hm⟩ := ob hm
 obtain ⟨F114, O114, kin14, hO14, hre14, hF14, hb14⟩ := k_65.go (.i (.r (.r .e)))
 refine Op_call [] 97 _ ph_go22 (by kernel_rfl) (c_pass_pen_letters (F := F114) (O := O114) _ _ _ _ kin14 _ h_r_20) ?_
 rintro e_ w_33 ⟨rfl, k_66⟩
 have k_67 := hb14 w_33 _ _ k_66 (.c .n)
 refine ⟨.tup [.s r_20.1, I r_20.2.1], rfl, ?_⟩
 refine WLs 5 [] (.n 9 (.s r_20.1) (.n 10 (I r_20.2.1) (.ss .a))) qe (by kernel_rfl) ?_
 refine WL_nil <| At_go <| W_seq <| W_seq <| W_q [] (.n 113 (.b ((!r_20.2.2.2.2) || (decide (r_20.2.2.2.1 < (s_.length : Int))))) (.kkkk (.s .a))) (qs g1 0 <| qs g1 0 <| qB k_67 0 rfl 2 (.b r_20.2.2.2.2) (by kernel_rfl) <| qp ((!r_20.2.2.2.2) = false → (some ⟨g1, 0, none⟩ : Option Addr).isSome = true) (fun hg0 => rfl) <| qp ((!r_20.2.2.2.2) = false → (some ⟨g1, 0, none⟩ : Option Addr).isSome = true) (fun hg0 => rfl) <| qo (I r_20.2.2.2.1) <| qc (fun w => (!r_20.2.2.2.2) = false → ∃ a, (some ⟨g1, 1, none⟩ : Option Addr) = some a ∧ w.cell? a = some (SV.val (I r_20.2.2.2.1))) (fun hg0 => k_67.bld 0 rfl 1 (I r_20.2.2.2.1) (by kernel_rfl)) <| qe) (by kernel_rfl) ?_
 refine At_go <| W_cond ((!r_20.2.2.2.2) || (decide (r_20.2.2.2.1 < (s_.length : Int)))) (by kernel_rfl) (fun hc3 => ?_) (fun hc3 => ?_)
 · rw [if_pos hc3] at hm
   refine W_seq ?_
   have k_68 := k_67.drew 1
   refine W_m ph_mixed (.q 0 0 (.q 1 1 (.q 2 1 (.q 3 1 (.q 4 1 (.op 5 (.q 6 1 (.q 7 1 .nil)))))))) [5] k_68 (.c (.k (.s (.k .e))) .l) (by kernel_rfl) (fun _ => ?_)
   refine MXq 1 0 [] (.n 114 (.agg [I 0, I 0, I 0, I 0, I 0, sl none 0 0, sl none 0 0]) (.ssss (.s (.kk .z)))) (fun x hx => qe) (by kernel_rfl) (fun _ => ?_)
   refine MXq 4 1 [] (.n 118 (I r_20.2.2.2.1) (.kk .z)) (fun x hx => qs g1 0 <| qs g1 0 <| qB hx 0 rfl 1 (I r_20.2.2.2.1) (by kernel_rfl) <| qe) (by kernel_rfl) (fun _ => ?_)
   refine MX_op (by kernel_rfl) rfl ?_
   have k_69 := k_68.sel (.kk (.k .e))
   refine Op_b [] 1 (.agg [I 0, I 0, I 0, I 0, I 0, sl none 0 0, sl none 0 0]) [I 0, I 0, I 0, I 0, I 0, sl none 0 0, sl none 0 0] (Pt.at g 0) k_69 rfl .all (by kernel_rfl) (by kernel_rfl) ?_
   intro w_34 k_70
   refine ⟨(k_70.sel (.k (.s (.k .e)))), fun _ => ?_⟩
   refine MXq 2 1 [] (.n 3 (I r_20.2.2.2.1) (.n 4 (I 4) (.ss .a))) (fun x hx => qe) (by kernel_rfl) (fun _ => ?_)
   refine MX_nil <| At_go <| W_ret (At_tr ?_)
   have k_71 := k_70.nil e8
   have k_72 := k_71.nil e8
   obtain rfl := Option.some.inj hm
   refine At_rt [.agg [I 0, I 0, I 0, I 0, I 0, sl none 0 0, sl none 0 0], I r_20.2.2.2.1, I 4] (qo (.agg [I 0, I 0, I 0, I 0, I 0, sl none 0 0, sl none 0 0]) <| qc (fun w => Rd w (some ⟨g, 0, none⟩) (SV.cl [I 0, I 0, I 0, I 0, I 0, sl none 0 0, sl none 0 0])) (k_70.brd 1 rfl) <| qe) (by kernel_rfl) ?_
   have k_73 := k_72.sel (.ss (.s (.kk .e)))
   exact ⟨none, 0, 0, none, 0, 0, k_73.len 0 rfl, k_73.len 1 rfl, rfl, k_73⟩
 rw [if_neg (by rw [hc3]; decide)] at hm
 refine W_skip <| At_go <| W_seq <| W_q [] (.s (.kkkk (.k (.s .a)))) qe (by kernel_rfl) ?_
 refine At_go <| W_seq <| W_seq <| W_reg <| WLs 1 [] (.n 120 (.s r_18.1) (.kk (.s .a))) qe (by kernel_rfl) ?_
 refine WL_op ?_
 have k_74 := k_67.sel (.kk (.k .e))
 obtain ⟨r_21, h_r_21, hm⟩ := ob hm
 refine Op_call [] 121 _ ph_go23 (by kernel_rfl) (c_word_UnBase64 (F := N0) (O := N0) _ (Cx.refl _) _ h_r_21) ?_
 rintro e_ w_35 ⟨A0, _, c0, rfl, rfl, k_75⟩
 have k_76 := k_74.call k_75
 refine ⟨.tup [sl A0 r_21.1.length c0, I r_21.2.1, I r_21.2.2], rfl, ?_⟩
 have k_77 := k_76.sel (.s (.kk (.k .e)))
 refine WLs 5 [] (.n 122 (sl A0 r_21.1.length c0) (.n 124 (I r_21.2.2) (.n 125 (pt g2 5) (.ss .a)))) (qs g2 0 <| qe) (by kernel_rfl) ?_
 refine WL_op <| Op_b [] 1 (sl A0 r_21.1.length c0) [sl A0 r_21.1.length c0] (Pt.at g2 5) k_77 rfl (.kkkk (.k .h)) (by kernel_rfl) (by kernel_rfl) ?_
 intro w_36 k_78
 refine WLs 1 [] (.n 11 (I r_21.2.2) (.sss .a)) qe (by kernel_rfl) ?_
 refine WL_nil <| At_go <| W_seq <| W_q [] (.n 127 (.b (decide (r_21.2.2 ≠ 0))) (.s .a)) qe (by kernel_rfl) ?_
 refine At_go <| W_condp (r_21.2.2 ≠ 0) (by kernel_rfl) (fun hc4 => ?_) (fun hc4 => ?_)
 · rw [if_pos hc4] at hm
   refine W_seq <| W_reg <| WLs 2 [] (.n 128 (.agg [I 0, I 0, I 0, I 0, I 0, sl none 0 0, sl none 0 0]) (.n 129 (I r_18.2.1) (.ssss (.k .z)))) qe (by kernel_rfl) ?_
   refine WL_op <| Op_b [] 0 (.agg [I 0, I 0, I 0, I 0, I 0, sl none 0 0, sl none 0 0]) [I 0, I 0, I 0, I 0, I 0, sl none 0 0, sl none 0 0] (Pt.at g 0) k_78 rfl .all (by kernel_rfl) (by kernel_rfl) ?_
   intro w_37 k_79
   have k_80 := k_79.sel (.k .z)
   refine WLs 2 [] (.n 3 (I r_18.2.1) (.n 4 (I 4) (.ss .a))) qe (by kernel_rfl) ?_
   refine WL_nil <| At_go <| W_ret (At_tr ?_)
   have k_81 := k_80.nil e8
   have k_82 := k_81.nil e8
   obtain rfl := Option.some.inj hm
   refine At_rt [.agg [I 0, I 0, I 0, I 0, I 0, sl none 0 0, sl none 0 0], I r_18.2.1, I 4] (qo (.agg [I 0, I 0, I 0, I 0, I 0, sl none 0 0, sl none 0 0]) <| qc (fun w => Rd w (some ⟨g, 0, none⟩) (SV.cl [I 0, I 0, I 0, I 0, I 0, sl none 0 0, sl none 0 0])) (k_80.brd 0 rfl) <| qe) (by kernel_rfl) ?_
   have k_83 := k_82.sel (.s (.kk .e))
   exact ⟨none, 0, 0, none, 0, 0, k_83.len 0 rfl, k_83.len 1 rfl, rfl, k_83⟩
 rw [if_neg hc4] at hm
 refine W_skip <| At_go <| W_seq <| W_seq <| W_reg <| WLs 1 [] (.n 131 (.s r_20.1) (.ss (.k (.s .a)))) qe (by kernel_rfl) ?_
 refine WL_op ?_
 obtain ⟨r_22, h_r_22, hm⟩ := ob hm
 refine Op_call [] 132 _ ph_go23 (by kernel_rfl) (c_word_UnBase64 (F := N0) (O := N0) _ (Cx.refl _) _ h_r_22) ?_
 rintro e_ w_38 ⟨A2, _, c2, rfl, rfl, k_84⟩
 have k_85 := k_78.call k_84
 refine ⟨.tup [sl A2 r_22.1.length c2, I r_22.2.1, I r_22.2.2], rfl, ?_⟩
 refine WLs 5 [] (.n 133 (sl A2 r_22.1.length c2) (.n 135 (I r_22.2.2) (.n 136 (pt g2 6) (.ss .a)))) (qs g2 0 <| qe) (by kernel_rfl) ?_
 refine WL_op <| Op_b [] 1 (sl A2 r_22.1.length c2) [sl A2 r_22.1.length c2] (Pt.at g2 6) k_85 rfl (.kkkk (.kk .h)) (by kernel_rfl) (by kernel_rfl) ?_
 intro w_39 k_86
 refine WLs 1 [] (.n 11 (I r_22.2.2) (.sss .a)) qe (by kernel_rfl) ?_
 refine WL_nil <| At_go <| W_seq <| W_q [] (.n 138 (.b (decide (r_22.2.2 ≠ 0))) (.s .a)) qe (by kernel_rfl) ?_
 refine At_go <| W_condp (r_22.2.2 ≠ 0) (by kernel_rfl) (fun hc5 => ?_) (fun hc5 => ?_)
 · rw [if_pos hc5] at hm
   refine W_seq <| W_reg <| WLs 2 [] (.n 139 (.agg [I 0, I 0, I 0, I 0, I 0, sl none 0 0, sl none 0 0]) (.n 140 (I r_20.2.1) (.ss (.k .z)))) qe (by kernel_rfl) ?_
   refine WL_op ?_
   have k_87 := k_86.sel (.kkkk .e)
   refine Op_b [] 0 (.agg [I 0, I 0, I 0, I 0, I 0, sl none 0 0, sl none 0 0]) [I 0, I 0, I 0, I 0, I 0, sl none 0 0, sl none 0 0] (Pt.at g 0) k_87 rfl .all (by kernel_rfl) (by kernel_rfl) ?_
   intro w_40 k_88
   have k_89 := k_88.sel (.k .z)
   refine WLs 2 [] (.n 3 (I r_20.2.1) (.n 4 (I 4) (.ss .a))) qe (by kernel_rfl) ?_
   refine WL_nil <| At_go <| W_ret (At_tr ?_)
   have k_90 := k_89.nil e8
   have k_91 := k_90.nil e8
   obtain rfl := Option.some.inj hm
   refine At_rt [.agg [I 0, I 0, I 0, I 0, I 0, sl none 0 0, sl none 0 0], I r_20.2.1, I 4] (qo (.agg [I 0, I 0, I 0, I 0, I 0, sl none 0 0, sl none 0 0]) <| qc (fun w => Rd w (some ⟨g, 0, none⟩) (SV.cl [I 0, I 0, I 0, I 0, I 0, sl none 0 0, sl none 0 0])) (k_89.brd 0 rfl) <| qe) (by kernel_rfl) ?_
   have k_92 := k_91.sel (.s (.kk .e))
   exact ⟨none, 0, 0, none, 0, 0, k_92.len 0 rfl, k_92.len 1 rfl, rfl, k_92⟩
 rw [if_neg hc5] at hm
 refine W_skip <| At_go <| W_seq <| W_reg <| WLs 5 [] (.n 143 (I ((r_22.1.length : Nat) : Int)) (.n 145 (pt g2 4) (.ss .a))) (qs g2 0 <| qB k_86 1 rfl 6 (sl A2 r_22.1.length c2) (by kernel_rfl) <| qs g2 0 <| qs g2 0 <| qe) (by kernel_rfl) ?_
 refine WL_op ?_
 have k_93 := k_86.sel (.kkkk .e)
 refine Op_b [] 1 (I ((r_22.1.length : Nat) : Int)) [I ((r_22.1.length : Nat) : Int)] (Pt.at g2 4) k_93 rfl (.kkkk .h) (by kernel_rfl) (by kernel_rfl) ?_
 intro w_41 k_94
 refine WL_nil <| At_go <| W_seq <| W_seq <| W_reg <| WLs 1 [] (.n 146 (.agg [I t, I r_10, I r_13, I r_16, I ((r_22.1.length : Nat) : Int), sl A0 r_21.1.length c0, sl A2 r_22.1.length c2]) (.ss .a)) (qT k_94 1 rfl 0 7 [I t, I r_10, I r_13, I r_16, I ((r_22.1.length : Nat) : Int), sl A0 r_21.1.length c0, sl A2 r_22.1.length c2] (by kernel_rfl) (by decide) <| qe) (by kernel_rfl) ?_
 refine WL_op ?_
 obtain ⟨r_23, h_r_23, hm⟩ := ob hm
 refine Op_call [] 147 _ ph_go12 (by kernel_rfl) (c_pass_check (F := N0) (O := N0) _ _ _ _ _ _ _ _ _ _ _ _ _ (Ro.n0 (k_94.rd 2 rfl)) (k_94.len 2 rfl) (k_94.lec 2 rfl) (Ro.n0 (k_94.rd 3 rfl)) (k_94.len 3 rfl) (k_94.lec 3 rfl) (Cx.refl _) _ h_r_23) ?_
 rintro e_ w_42 ⟨rfl, k_95⟩
 have k_96 := k_94.call k_95
 refine ⟨I r_23, rfl, ?_⟩
 refine WLs 1 [] (.n 148 (.b (decide (r_23 ≠ 0))) (.ss .a)) qe (by kernel_rfl) ?_
 refine WL_nil <| At_go <| W_condp (r_23 ≠ 0) (by kernel_rfl) (fun hc6 => ?_) (fun hc6 => ?_)
 · rw [if_pos hc6] at hm
   refine W_seq <| W_reg <| WLs 1 [] (.n 149 (.agg [I 0, I 0, I 0, I 0, I 0, sl none 0 0, sl none 0 0]) (.s (.k .z))) qe (by kernel_rfl) ?_
   refine WL_op <| Op_b [] 0 (.agg [I 0, I 0, I 0, I 0, I 0, sl none 0 0, sl none 0 0]) [I 0, I 0, I 0, I 0, I 0, sl none 0 0, sl none 0 0] (Pt.at g 0) k_96 rfl .all (by kernel_rfl) (by kernel_rfl) ?_
   intro w_43 k_97
   have k_98 := k_97.sel (.k .z)
   refine WLs 2 [] (.n 3 (I 0) (.n 4 (I 1) (.s .a))) qe (by kernel_rfl) ?_
   refine WL_nil <| At_go <| W_ret (At_tr ?_)
   have k_99 := k_98.nil e8
   have k_100 := k_99.nil e8
   obtain rfl := Option.some.inj hm
   refine At_rt [.agg [I 0, I 0, I 0, I 0, I 0, sl none 0 0, sl none 0 0], I 0, I 1] (qo (.agg [I 0, I 0, I 0, I 0, I 0, sl none 0 0, sl none 0 0]) <| qc (fun w => Rd w (some ⟨g, 0, none⟩) (SV.cl [I 0, I 0, I 0, I 0, I 0, sl none 0 0, sl none 0 0])) (k_98.brd 0 rfl) <| qe) (by kernel_rfl) ?_
   have k_101 := k_100.sel (.s (.kk .e))
   exact ⟨none, 0, 0, none, 0, 0, k_101.len 0 rfl, k_101.len 1 rfl, rfl, k_101⟩
 rw [if_neg hc6] at hm
 refine W_skip <| At_go <| W_seq <| W_reg <| WLs 1 [] (.n 150 (.agg [I t, I r_10, I r_13, I r_16, I ((r_22.1.length : Nat) : Int), sl A0 r_21.1.length c0, sl A2 r_22.1.length c2]) (.s (.k .z))) (qT k_96 1 rfl 0 7 [I t, I r_10, I r_13, I r_16, I ((r_22.1.length : Nat) : Int), sl A0 r_21.1.length c0, sl A2 r_22.1.length c2] (by kernel_rfl) (by decide) <| qe) (by kernel_rfl) ?_
 refine WL_op <| Op_b [] 0 (.agg [I t, I r_10, I r_13, I r_16, I ((r_22.1.length : Nat) : Int), sl A0 r_21.1.length c0, sl A2 r_22.1.length c2]) [I t, I r_10, I r_13, I r_16, I ((r_22.1.length : Nat) : Int), sl A0 r_21.1.length c0, sl A2 r_22.1.length c2] (Pt.at g 0) k_96 rfl .all (by kernel_rfl) (by kernel_rfl) ?_
 intro w_44 k_102
 have k_103 := k_102.sel (.k (.s (.kk .e)))
 refine WLs 2 [] (.n 3 (I 0) (.n 4 (I 0) (.s .a))) qe (by kernel_rfl) ?_
 refine WL_nil <| At_go <| W_ret ?_
 obtain rfl := Option.some.inj hm
 refine At_rt [.agg [I t, I r_10, I r_13, I r_16, I ((r_22.1.length : Nat) : Int), sl A0 r_21.1.length c0, sl A2 r_22.1.length c2], I 0, I 0] (qo (.agg [I t, I r_10, I r_13, I r_16, I ((r_22.1.length : Nat) : Int), sl A0 r_21.1.length c0, sl A2 r_22.1.length c2]) <| qc (fun w => Rd w (some ⟨g, 0, none⟩) (SV.cl [I t, I r_10, I r_13, I r_16, I ((r_22.1.length : Nat) : Int), sl A0 r_21.1.length c0, sl A2 r_22.1.length c2])) (k_103.brd 0 rfl) <| qe) (by kernel_rfl) ?_
 have k_104 := k_103.sel (.s (.kk .e))
 exact ⟨A0, r_21.1.length, c0, A2, r_22.1.length, c2, k_104.len 0 rfl, k_104.len 1 rfl, rfl, k_104⟩

-- quern/quernlaw21.awake
theorem c_l21_awake {F O : Nat → Prop} {w : World} (k : Cx F O w w []) (r : Bool) (hm : m_l21_awake = some r) :
    Calls Tryd.prog 10 (vals []) w (fun e w' => e = .returned (SV.val (.b r)) ∧ Cx F O w w' []) := by
 unfold m_l21_awake at hm
 refine calls [] Tryd.func10 rfl (of_decide_eq_true (by kernel_rfl)) ?_
 refine W_seq <| W_q [] .a qe (by kernel_rfl) ?_
 refine At_go <| W_seq <| W_reg <| WL_op ?_
 obtain ⟨r_, h_r_, hm⟩ := ob hm
 refine Op_call [] 5 _ ph_go7 (by kernel_rfl) (c_pass_Parse (F := N0) (O := N0) _ (Cx.refl _) _ h_r_) ?_
 rintro e_ w_ ⟨A, _, c, A1, _, c1, rfl, rfl, rfl, k_⟩
 have k_1 := k.call k_
 refine ⟨.tup [.agg [I r_.1, I r_.2.1, I r_.2.2.1, I r_.2.2.2.1, I r_.2.2.2.2.1, sl A r_.2.2.2.2.2.1.length c, sl A1 r_.2.2.2.2.2.2.1.length c1], I r_.2.2.2.2.2.2.2.1, I r_.2.2.2.2.2.2.2.2], rfl, ?_⟩
 refine WLs 4 [] (.n 6 (.agg [I r_.1, I r_.2.1, I r_.2.2.1, I r_.2.2.2.1, I r_.2.2.2.2.1, sl A r_.2.2.2.2.2.1.length c, sl A1 r_.2.2.2.2.2.2.1.length c1]) (.n 7 (I r_.2.2.2.2.2.2.2.1) (.n 8 (I r_.2.2.2.2.2.2.2.2) .z))) qe (by kernel_rfl) ?_
 refine WL_op <| Op_alloc [] 1 [I 0, I 0, I 0, I 0, I 0, sl none 0 0, sl none 0 0] (by kernel_rfl) k_1 ?_
 intro g w_1 k_2
 refine WL_op <| Op_b [] 2 (.agg [I r_.1, I r_.2.1, I r_.2.2.1, I r_.2.2.2.1, I r_.2.2.2.2.1, sl A r_.2.2.2.2.2.1.length c, sl A1 r_.2.2.2.2.2.2.1.length c1]) [I r_.1, I r_.2.1, I r_.2.2.1, I r_.2.2.2.1, I r_.2.2.2.2.1, sl A r_.2.2.2.2.2.1.length c, sl A1 r_.2.2.2.2.2.2.1.length c1] (Pt.at g 0) k_2 rfl .all (by kernel_rfl) (by kernel_rfl) ?_
 intro w_2 k_3
 have k_4 := k_3.sel .z
 refine WLs 2 [] (.n 2 (I r_.2.2.2.2.2.2.2.1) (.n 3 (I r_.2.2.2.2.2.2.2.2) .z)) qe (by kernel_rfl) ?_
 refine WL_nil <| At_go <| W_seq <| W_q [] (.n 0 (.b ((decide (r_.2.2.2.2.2.2.2.1 = 13)) && (decide (r_.2.2.2.2.2.2.2.2 = 4)))) .z) qe (by kernel_rfl) ?_
 refine At_go <| W_ret ?_
 obtain rfl := Option.some.inj hm
 refine At_rt [.b ((decide (r_.2.2.2.2.2.2.2.1 = 13)) && (decide (r_.2.2.2.2.2.2.2.2 = 4)))] qe (by kernel_rfl) ?_
 exact ⟨rfl, k_4⟩

-- quern/pass.kind
theorem c_pass_kind {F O : Nat → Prop} {w : World} (k_ : Int) (k : Cx F O w w []) (r : (List UInt8)) (hm : m_pass_kind k_ = some r) :
    Calls Tryd.prog 13 (vals [I k_]) w (fun e w' => e = .returned (SV.val (.s r)) ∧ Cx F O w w' []) := by
 unfold m_pass_kind at hm
 refine calls [I k_] Tryd.func13 rfl (of_decide_eq_true (by kernel_rfl)) ?_
 refine W_seq <| W_q [] .a qe (by kernel_rfl) ?_
 refine At_go <| W_seq ?_
 obtain ⟨x_0, h_x_0, hm⟩ := ob hm
 refine W_q [] (.n 2 (.s x_0) .z) (qo (.s x_0) <| qp ((0 ≤ k_ ∧ k_ < ((3 : Nat) : Int)) ∧ (SV.cl [.ar eS (⟨[([100] : List UInt8), ([105] : List UInt8), ([105, 100] : List UInt8)], rfl⟩ : Vec (List UInt8) 3)])[Int.toNat k_ * 1]? = some (SV.val (.s x_0))) (ar_ix (E := eS) h_x_0 rfl) <| qe) (by kernel_rfl) ?_
 refine At_go <| W_ret ?_
 obtain rfl := Option.some.inj hm
 refine At_rt [.s x_0] qe (by kernel_rfl) ?_
 exact ⟨rfl, k⟩

-- quern/word.Base64
theorem c_word_Base64 {F O : Nat → Prop} {w : World} (b : List UInt8) (A_b : Option Addr) (n_b : Nat) (c_b : Nat) (h_b : Ro F w A_b (e8.all b)) (hn_b : b.length = n_b) (hc_b : n_b ≤ c_b) (k : Cx F O w w []) (r : (List UInt8)) (hm : m_word_Base64 b = some r) :
    Calls Tryd.prog 15 (vals [sl A_b n_b c_b]) w (fun e w' => e = .returned (SV.val (.s r)) ∧ Cx F O w w' []) := by
 unfold m_word_Base64 at hm
 subst hn_b
 refine calls [sl A_b b.length c_b] Tryd.func15 rfl (of_decide_eq_true (by kernel_rfl)) ?_
 refine W_seq <| W_q [] .a qe (by kernel_rfl) ?_
 refine At_go <| W_seq <| W_q [] (.n 3 (sl none 0 0) .a) qe (by kernel_rfl) ?_
 refine At_go <| W_seq <| W_seq <| W_q [] (.n 4 (I 0) .a) qe (by kernel_rfl) ?_
 refine At_go <| W_block ?_
 have k_1 := k.nil e8
 refine W_lp (m_word_Base64_l0 b) (fun s L wr => ∃ (s_ : List UInt8) (i : Int) (A : Option Addr) (n : Nat) (c : Nat), (s_, i) = s ∧ L = [(0, sl A_b b.length c_b), (3, sl A n c), (4, I i)] ∧ s_.length = n ∧ Cx F O w wr [Ow e8 A n c s_]) (([] : List UInt8), (0 : Int)) r hm ⟨([] : List UInt8), (0 : Int), none, 0, 0, rfl, rfl, k_1.len 0 rfl, k_1⟩ (by kernel_rfl) ?_
 intro s0_ L_ w_ y0 hrel hstep hr0
 obtain ⟨s_, i, A, _, c, rfl, rfl, rfl, k_⟩ := hrel
 have hm := hstep; simp only [m_word_Base64_l0] at hm
 clear hstep
 refine W_seq <| W_seq <| W_q [] (.n 11 (.b (decide (i < ((b.length : Nat) : Int)))) .a) qe (by kernel_rfl) ?_
 refine At_go <| W_condp (i < ((b.length : Nat) : Int)) (by kernel_rfl) (fun hc => ?_) (fun hc => ?_)
 · rw [if_pos hc] at hm
   refine W_skip <| At_go <| W_cut (fun L wr => ∃ (s_1 : List UInt8) (A1 : Option Addr) (n1 : Nat) (c1 : Nat), m_word_Base64_j0 i s_1 = some y0 ∧ L = [(0, sl A_b b.length c_b), (3, sl A1 n1 c1), (4, I i)] ∧ s_1.length = n1 ∧ Cx F O w wr [Ow e8 A1 n1 c1 s_1]) ?_ ?_
   ·
    refine W_block <| W_seq <| W_q [] (.n 5 (I (if w64 (((b.length : Nat) : Int) - i) < 3 then w64 (((b.length : Nat) : Int) - i) else 3)) (.s .a)) qe (by kernel_rfl) ?_
    refine At_go <| W_seq ?_
    obtain ⟨x_0, h_x_0, hm⟩ := ob hm
    refine W_q [] (.n 6 (.u32 (shl32 (UInt32.ofNat x_0.toNat) ((16 : UInt64).toNat))) .a) (qW (h_b.cx k_) h_x_0 rfl (.u8 x_0) rfl <| qe) (by kernel_rfl) ?_
    refine At_go <| W_cut (fun L wr => ∃ (v : UInt32), m_word_Base64_j1 b s_ i v = some y0 ∧ L = [(0, sl A_b b.length c_b), (3, sl A s_.length c), (4, I i), (5, I (if w64 (((b.length : Nat) : Int) - i) < 3 then w64 (((b.length : Nat) : Int) - i) else 3)), (6, .u32 v)] ∧ Cx F O w wr [Ow e8 A s_.length c s_]) ?_ ?_
    ·
     refine W_seq <| W_q [] (.n 26 (.b (decide (1 < (if w64 (((b.length : Nat) : Int) - i) < 3 then w64 (((b.length : Nat) : Int) - i) else 3)))) .a) qe (by kernel_rfl) ?_
     refine At_go <| W_condp (1 < (if w64 (((b.length : Nat) : Int) - i) < 3 then w64 (((b.length : Nat) : Int) - i) else 3)) (by kernel_rfl) (fun hc1 => ?_) (fun hc1 => ?_)
     · rw [if_pos hc1] at hm
       obtain ⟨x_1, h_x_1, hm⟩ := ob hm
       refine W_q [] (.n 6 (.u32 ((shl32 (UInt32.ofNat x_0.toNat) ((16 : UInt64).toNat)) ||| (shl32 (UInt32.ofNat x_1.toNat) ((8 : UInt64).toNat)))) (.ss .a)) (qW (h_b.cx k_) h_x_1 rfl (.u8 x_1) rfl <| qe) (by kernel_rfl) ?_
       exact At_c ⟨(shl32 (UInt32.ofNat x_0.toNat) ((16 : UInt64).toNat)) ||| (shl32 (UInt32.ofNat x_1.toNat) ((8 : UInt64).toNat)), hm, rfl, k_⟩ (by kernel_rfl)
     rw [if_neg hc1] at hm
     refine W_skip ?_
     exact At_c ⟨shl32 (UInt32.ofNat x_0.toNat) ((16 : UInt64).toNat), hm, rfl, k_⟩ (by kernel_rfl)
    rintro L_ w_1 ⟨v, hm, rfl, k_2⟩
    simp only [m_word_Base64_j1] at hm
    refine W_cut (fun L wr => ∃ (v1 : UInt32), m_word_Base64_j2 b s_ i v1 = some y0 ∧ L = [(0, sl A_b b.length c_b), (3, sl A s_.length c), (4, I i), (5, I (if w64 (((b.length : Nat) : Int) - i) < 3 then w64 (((b.length : Nat) : Int) - i) else 3)), (6, .u32 v1)] ∧ Cx F O w wr [Ow e8 A s_.length c s_]) ?_ ?_
    ·
     refine W_seq <| W_q [] (.n 37 (.b (decide (2 < (if w64 (((b.length : Nat) : Int) - i) < 3 then w64 (((b.length : Nat) : Int) - i) else 3)))) .a) qe (by kernel_rfl) ?_
     refine At_go <| W_condp (2 < (if w64 (((b.length : Nat) : Int) - i) < 3 then w64 (((b.length : Nat) : Int) - i) else 3)) (by kernel_rfl) (fun hc2 => ?_) (fun hc2 => ?_)
     · rw [if_pos hc2] at hm
       obtain ⟨x_2, h_x_2, hm⟩ := ob hm
       refine W_q [] (.n 6 (.u32 (v ||| (UInt32.ofNat x_2.toNat))) (.s (.kkkk .z))) (qW (h_b.cx k_2) h_x_2 rfl (.u8 x_2) rfl <| qe) (by kernel_rfl) ?_
       exact At_c ⟨v ||| (UInt32.ofNat x_2.toNat), hm, rfl, k_2⟩ (by kernel_rfl)
     rw [if_neg hc2] at hm
     refine W_skip ?_
     exact At_c ⟨v, hm, rfl, k_2⟩ (by kernel_rfl)
    rintro L_ w_2 ⟨v1, hm, rfl, k_3⟩
    simp only [m_word_Base64_j2] at hm
    refine W_seq <| W_q [] (.n 47 (I (w64 ((if w64 (((b.length : Nat) : Int) - i) < 3 then w64 (((b.length : Nat) : Int) - i) else 3) + 1))) (.n 48 (I 0) (.kkk (.s .a)))) qe (by kernel_rfl) ?_
    refine At_go <| W_block <| W_lp (m_word_Base64_l1 b i v1) (fun s L wr => ∃ (s_2 : List UInt8) (x_3 : Int) (A2 : Option Addr) (n2 : Nat) (c2 : Nat), (s_2, x_3) = s ∧ L = [(0, sl A_b b.length c_b), (3, sl A2 n2 c2), (4, I i), (6, .u32 v1), (47, I (w64 ((if w64 (((b.length : Nat) : Int) - i) < 3 then w64 (((b.length : Nat) : Int) - i) else 3) + 1))), (48, I x_3)] ∧ s_2.length = n2 ∧ Cx F O w wr [Ow e8 A2 n2 c2 s_2]) (s_, (0 : Int)) y0 hm ⟨s_, (0 : Int), A, s_.length, c, rfl, rfl, k_3.len 0 rfl, k_3⟩ (by kernel_rfl) ?_
    intro s1_ L_ w_3 y1 hrel hstep hr1
    obtain ⟨s_2, x_3, A2, _, c2, rfl, rfl, rfl, k_4⟩ := hrel
    have hm := hstep; simp only [m_word_Base64_l1] at hm
    clear hstep
    refine W_seq <| W_q [] (.n 49 (.b (decide (x_3 < (w64 ((if w64 (((b.length : Nat) : Int) - i) < 3 then w64 (((b.length : Nat) : Int) - i) else 3) + 1))))) .a) qe (by kernel_rfl) ?_
    refine At_go <| W_seq <| W_condp (x_3 < (w64 ((if w64 (((b.length : Nat) : Int) - i) < 3 then w64 (((b.length : Nat) : Int) - i) else 3) + 1))) (by kernel_rfl) (fun hc3 => ?_) (fun hc3 => ?_)
    · rw [if_pos hc3] at hm
      refine W_skip <| At_go <| W_seq <| W_block <| W_seq <| W_q [] (.n 7 (I x_3) (.s .a)) qe (by kernel_rfl) ?_
      refine At_go <| W_reg ?_
      obtain ⟨u, h_u, hm⟩ := ob hm
      obtain ⟨c3, h_c3, hm⟩ := ob hm
      refine WLs 8 [] (.n 51 (sl A2 s_2.length c2) (.n 58 (.u8 c3) (.s .a))) (qp (0 ≤ w64 (18 - (w64 (6 * x_3)))) (need_some h_u) <| qX h_c3 <| qe) (by kernel_rfl) ?_
      refine WL_op <| Op_mk ph_tf24 e8 [] 59 ([c3] : List UInt8) [(0, .u8 c3)] [.u8 c3] (by kernel_rfl) (by kernel_rfl) (by kernel_rfl) k_4 ?_
      intro A3 w_4 k_5
      refine WL_op ?_
      obtain ⟨s_3, h_s_3, hm⟩ := ob hm
      obtain ⟨hz, hl⟩ := app_some h_s_3
      refine Op_append (E := e8) (v := sl A3 1 1) (ys := ([c3] : List UInt8)) ph_tf24 [] 60 0 (by kernel_rfl) k_5 rfl (Src.sl (k_5.rd 1 rfl) (k_5.len 1 rfl) (by rfl)) (k_5.len 1 rfl) (by have := k_5.len 0 rfl; have := (k_5.len 1 rfl); omega) ?_
      intro A4 c4 w_5 k_6
      rw [← hl] at k_6
      have k_7 := k_6.sel (.k .z)
      refine WLs 1 [] (.n 3 (sl A4 (s_2.length + 1) c4) (.ssss (.k (.s .a)))) qe (by kernel_rfl) ?_
      refine WL_nil <| At_in <| At_go <| W_q [] (.n 48 (I (w64 (x_3 + 1))) (.kkkk (.k .z))) qe (by kernel_rfl) ?_
      exact At_rd (s_3, w64 (x_3 + 1)) (Option.some.inj hm).symm ⟨s_3, w64 (x_3 + 1), A4, s_2.length + 1, c4, rfl, rfl, k_7.len 0 rfl, k_7⟩ (by kernel_rfl)
    rw [if_neg hc3] at hm
    refine W_exit (At_te (At_te (At_ie ?_)))
    have hm := exit_of hm hr1
    refine At_in ?_
    exact At_c ⟨s_2, A2, s_2.length, c2, hm, rfl, k_4.len 0 rfl, k_4⟩ (by kernel_rfl)
   rintro L_ w_6 ⟨s_1, A1, _, c1, hm, rfl, rfl, k_8⟩
   simp only [m_word_Base64_j0] at hm
   refine W_q [] (.n 4 (I (w64 (i + 3))) (.kk .z)) qe (by kernel_rfl) ?_
   exact At_rd (s_1, w64 (i + 3)) (Option.some.inj hm).symm ⟨s_1, w64 (i + 3), A1, s_1.length, c1, rfl, rfl, k_8.len 0 rfl, k_8⟩ (by kernel_rfl)
 rw [if_neg hc] at hm
 refine W_exit (At_te (At_te (At_ie ?_)))
 have hm := exit_of hm hr0
 refine At_go <| W_seq <| W_q [] (.n 2 (.s s_) .z) (qo (.s s_) <| qc (fun w => Rd w A (s_.map bV) ∧ s_.length = s_.length) ⟨e8_all s_ ▸ (k_.rd 0 rfl), (k_.len 0 rfl)⟩ <| qe) (by kernel_rfl) ?_
 refine At_go <| W_ret ?_
 obtain rfl := Option.some.inj hm
 refine At_rt [.s s_] qe (by kernel_rfl) ?_
 have k_9 := k_.sel .z
 exact ⟨rfl, k_9⟩

-- quern/pass.Print
theorem c_pass_Print {F O : Nat → Prop} {w : World} (t_Argon_Kind : Int) (t_Argon_Memory : Int) (t_Argon_Passes : Int) (t_Argon_Lanes : Int) (t_Argon_Tag : Int) (t_Salt : List UInt8) (t_Sum : List UInt8) (A_t_Salt : Option Addr) (n_t_Salt : Nat) (c_t_Salt : Nat) (A_t_Sum : Option Addr) (n_t_Sum : Nat) (c_t_Sum : Nat) (h_t_Salt : Ro F w A_t_Salt (e8.all t_Salt)) (hn_t_Salt : t_Salt.length = n_t_Salt) (hc_t_Salt : n_t_Salt ≤ c_t_Salt) (h_t_Sum : Ro F w A_t_Sum (e8.all t_Sum)) (hn_t_Sum : t_Sum.length = n_t_Sum) (hc_t_Sum : n_t_Sum ≤ c_t_Sum) (hT : TabF Tryd.prog F w) (k : Cx F O w w []) (r : (List UInt8 × Int)) (hm : m_pass_Print t_Argon_Kind t_Argon_Memory t_Argon_Passes t_Argon_Lanes t_Argon_Tag t_Salt t_Sum = some r) :
    Calls Tryd.prog 5 (vals [.agg [I t_Argon_Kind, I t_Argon_Memory, I t_Argon_Passes, I t_Argon_Lanes, I t_Argon_Tag, sl A_t_Salt n_t_Salt c_t_Salt, sl A_t_Sum n_t_Sum c_t_Sum]]) w (fun e w' => e = .returned (SV.val (.tup [.s r.1, I r.2])) ∧ Cx F O w w' []) := by
 unfold m_pass_Print at hm
 subst hn_t_Salt
 subst hn_t_Sum
 refine calls [.agg [I t_Argon_Kind, I t_Argon_Memory, I t_Argon_Passes, I t_Argon_Lanes, I t_Argon_Tag, sl A_t_Salt t_Salt.length c_t_Salt, sl A_t_Sum t_Sum.length c_t_Sum]] Tryd.func5 rfl (of_decide_eq_true (by kernel_rfl)) ?_
 refine W_seq <| W_reg <| WL_op <| Op_box [] 1 (.agg [I t_Argon_Kind, I t_Argon_Memory, I t_Argon_Passes, I t_Argon_Lanes, I t_Argon_Tag, sl A_t_Salt t_Salt.length c_t_Salt, sl A_t_Sum t_Sum.length c_t_Sum]) [I t_Argon_Kind, I t_Argon_Memory, I t_Argon_Passes, I t_Argon_Lanes, I t_Argon_Tag, sl A_t_Salt t_Salt.length c_t_Salt, sl A_t_Sum t_Sum.length c_t_Sum] (by kernel_rfl) k ?_
 intro g w_ k_
 refine WLs 2 [] (.k .z) qe (by kernel_rfl) ?_
 refine WL_nil <| At_go <| W_seq <| W_seq <| W_reg <| WLs 1 [] (.n 6 (.agg [I t_Argon_Kind, I t_Argon_Memory, I t_Argon_Passes, I t_Argon_Lanes, I t_Argon_Tag, sl A_t_Salt t_Salt.length c_t_Salt, sl A_t_Sum t_Sum.length c_t_Sum]) .a) (qT k_ 0 rfl 0 7 [I t_Argon_Kind, I t_Argon_Memory, I t_Argon_Passes, I t_Argon_Lanes, I t_Argon_Tag, sl A_t_Salt t_Salt.length c_t_Salt, sl A_t_Sum t_Sum.length c_t_Sum] (by kernel_rfl) (by decide) <| qe) (by kernel_rfl) ?_
 refine WL_op ?_
 obtain ⟨r_, h_r_, hm⟩ := ob hm
 refine Op_call [] 7 _ ph_go12 (by kernel_rfl) (c_pass_check (F := N0) (O := N0) _ _ _ _ _ _ _ _ _ _ _ _ _ (Ro.n0 (h_t_Salt.cx k_)) rfl hc_t_Salt (Ro.n0 (h_t_Sum.cx k_)) rfl hc_t_Sum (Cx.refl _) _ h_r_) ?_
 rintro e_ w_1 ⟨rfl, k_1⟩
 have k_2 := k_.call k_1
 refine ⟨I r_, rfl, ?_⟩
 refine WLs 1 [] (.n 4 (I r_) (.ss .a)) qe (by kernel_rfl) ?_
 refine WL_nil <| At_go <| W_seq <| W_q [] (.n 9 (.b (decide (r_ ≠ 0))) .a) qe (by kernel_rfl) ?_
 refine At_go <| W_condp (r_ ≠ 0) (by kernel_rfl) (fun hc => ?_) (fun hc => ?_)
 · rw [if_pos hc] at hm
   refine W_seq <| W_q [] (.n 2 (.s ([] : List UInt8)) (.n 3 (I r_) .z)) qe (by kernel_rfl) ?_
   refine At_go <| W_ret (At_tr ?_)
   obtain rfl := Option.some.inj hm
   refine At_rt [.s ([] : List UInt8), I r_] qe (by kernel_rfl) ?_
   have k_3 := k_2.sel .z
   exact ⟨rfl, k_3⟩
 rw [if_neg hc] at hm
 refine W_skip <| At_go <| W_seq <| W_reg <| WLs 2 [] (.n 12 (.agg [I t_Argon_Kind, I t_Argon_Memory, I t_Argon_Passes, I t_Argon_Lanes, I t_Argon_Tag]) (.ss .a)) (qs g 0 <| qT k_2 0 rfl 0 5 [I t_Argon_Kind, I t_Argon_Memory, I t_Argon_Passes, I t_Argon_Lanes, I t_Argon_Tag] (by kernel_rfl) (by decide) <| qe) (by kernel_rfl) ?_
 refine WL_op <| Op_alloc [] 5 [I 0, I 0, I 0, I 0, I 0] (by kernel_rfl) k_2 ?_
 intro g1 w_2 k_4
 refine WL_op <| Op_b [] 1 (.agg [I t_Argon_Kind, I t_Argon_Memory, I t_Argon_Passes, I t_Argon_Lanes, I t_Argon_Tag]) [I t_Argon_Kind, I t_Argon_Memory, I t_Argon_Passes, I t_Argon_Lanes, I t_Argon_Tag] (Pt.at g1 0) k_4 rfl .all (by kernel_rfl) (by kernel_rfl) ?_
 intro w_3 k_5
 refine WL_nil <| At_go <| W_seq ?_
 have k_6 := k_5.drew 1
 refine W_mN ph_mixed (.q 0 5 (.q 1 4 (.q 5 5 (.q 6 4 (.q 10 5 (.q 11 4 (.q 15 5 (.q 16 4 (.q 20 5 (.q 21 4 (.q 25 5 (.q 26 5 (.op 2 (.q 3 6 (.q 4 6 (.op 7 (.q 8 6 (.q 9 6 (.op 12 (.q 13 6 (.q 14 6 (.op 17 (.q 18 6 (.q 19 6 (.op 22 (.q 23 6 (.q 24 6 (.op 27 (.q 28 6 (.q 29 6 (.q 30 6 .nil))))))))))))))))))))))))))))))) [2, 7, 12, 17, 22, 27] k_6 (.c (.kk .e) (.c (.kk .e) (.c (.kk .e) (.c (.kk .e) (.c (.kk .e) (.c (.kk .e) .l)))))) (by kernel_rfl) (fun _ => ?_)
 refine MXq 1 5 [] (.n 13 (pt g1 0) (.k (.s .a))) (fun x hx => qs g1 0 <| qe) (by kernel_rfl) (fun _ => ?_)
 refine MXq 1 4 [] (.n 14 (I t_Argon_Kind) (.s .a)) (fun x hx => qB hx 1 rfl 0 (I t_Argon_Kind) (by kernel_rfl) <| qe) (by kernel_rfl) (fun _ => ?_)
 refine MXq 1 5 [] (.n 18 (pt g1 1) .a) (fun x hx => qs g1 0 <| qe) (by kernel_rfl) (fun _ => ?_)
 refine MXq 1 4 [] (.n 19 (I t_Argon_Memory) (.s .a)) (fun x hx => qB hx 1 rfl 1 (I t_Argon_Memory) (by kernel_rfl) <| qe) (by kernel_rfl) (fun _ => ?_)
 refine MXq 1 5 [] (.n 23 (pt g1 2) .a) (fun x hx => qs g1 0 <| qe) (by kernel_rfl) (fun _ => ?_)
 refine MXq 1 4 [] (.n 24 (I t_Argon_Passes) (.s .a)) (fun x hx => qB hx 1 rfl 2 (I t_Argon_Passes) (by kernel_rfl) <| qe) (by kernel_rfl) (fun _ => ?_)
 refine MXq 1 5 [] (.n 28 (pt g1 3) (.kkk (.s .a))) (fun x hx => qs g1 0 <| qe) (by kernel_rfl) (fun _ => ?_)
 refine MXq 1 4 [] (.n 29 (I t_Argon_Lanes) (.s .a)) (fun x hx => qB hx 1 rfl 3 (I t_Argon_Lanes) (by kernel_rfl) <| qe) (by kernel_rfl) (fun _ => ?_)
 refine MXq 1 5 [] (.n 33 (pt g 5) .a) (fun x hx => qs g 0 <| qe) (by kernel_rfl) (fun _ => ?_)
 refine MXq 1 4 [] (.n 34 (sl A_t_Salt t_Salt.length c_t_Salt) (.s .a)) (fun x hx => qB hx 0 rfl 5 (sl A_t_Salt t_Salt.length c_t_Salt) (by kernel_rfl) <| qe) (by kernel_rfl) (fun _ => ?_)
 refine MXq 2 5 [] (.n 39 (sl A_t_Sum t_Sum.length c_t_Sum) (.kkkk (.k .z))) (fun x hx => qs g 0 <| qB hx 0 rfl 6 (sl A_t_Sum t_Sum.length c_t_Sum) (by kernel_rfl) <| qe) (by kernel_rfl) (fun _ => ?_)
 refine MX_op (by kernel_rfl) rfl ?_
 have k_7 := k_6.sel (.kk .e)
 obtain ⟨r_1, h_r_1, hm⟩ := ob hm
 refine Op_call [] 15 _ ph_go13 (by kernel_rfl) (c_pass_kind (F := N0) (O := N0) _ (Cx.refl _) _ h_r_1) ?_
 rintro e_ w_4 ⟨rfl, k_8⟩
 have k_9 := k_7.call k_8
 refine ⟨.s r_1, rfl, ?_⟩
 refine ⟨k_9, fun _ => ?_⟩
 obtain ⟨u, h_u, hm⟩ := ob hm
 obtain ⟨u1, h_u1, hm⟩ := ob hm
 refine MXq 2 6 [] (.n 17 (.s ((([36, 97, 114, 103, 111, 110, 50] : List UInt8) ++ r_1) ++ ([36, 118, 61, 49, 57, 36, 109, 61] : List UInt8))) (.s (.kkkk (.k .z)))) (fun x hx => qp (([36, 97, 114, 103, 111, 110, 50] : List UInt8).length + r_1.length ≤ 9223372036854775807) (need_some h_u) <| qp ((([36, 97, 114, 103, 111, 110, 50] : List UInt8) ++ r_1).length + ([36, 118, 61, 49, 57, 36, 109, 61] : List UInt8).length ≤ 9223372036854775807) (need_some h_u1) <| qe) (by kernel_rfl) (fun _ => ?_)
 refine MX_op (by kernel_rfl) rfl ?_
 obtain ⟨u2, h_u2, hm⟩ := ob hm
 refine Op_call [] 20 _ ph_go14 (by kernel_rfl) (ph_itoa14 k_9 (need_some h_u2) hT) ?_
 rintro e_ w_5 ⟨rfl, k_10⟩
 refine ⟨.s (Lib.itoa t_Argon_Memory), rfl, ?_⟩
 refine ⟨k_10, fun _ => ?_⟩
 obtain ⟨u3, h_u3, hm⟩ := ob hm
 obtain ⟨u4, h_u4, hm⟩ := ob hm
 refine MXq 2 6 [] (.n 22 (.s ((((([36, 97, 114, 103, 111, 110, 50] : List UInt8) ++ r_1) ++ ([36, 118, 61, 49, 57, 36, 109, 61] : List UInt8)) ++ (Lib.itoa t_Argon_Memory)) ++ ([44, 116, 61] : List UInt8))) (.ss (.kkkk .z))) (fun x hx => qp (((([36, 97, 114, 103, 111, 110, 50] : List UInt8) ++ r_1) ++ ([36, 118, 61, 49, 57, 36, 109, 61] : List UInt8)).length + (Lib.itoa t_Argon_Memory).length ≤ 9223372036854775807) (need_some h_u3) <| qp ((((([36, 97, 114, 103, 111, 110, 50] : List UInt8) ++ r_1) ++ ([36, 118, 61, 49, 57, 36, 109, 61] : List UInt8)) ++ (Lib.itoa t_Argon_Memory)).length + ([44, 116, 61] : List UInt8).length ≤ 9223372036854775807) (need_some h_u4) <| qe) (by kernel_rfl) (fun _ => ?_)
 refine MX_op (by kernel_rfl) rfl ?_
 obtain ⟨u5, h_u5, hm⟩ := ob hm
 refine Op_call [] 25 _ ph_go14 (by kernel_rfl) (ph_itoa14 k_10 (need_some h_u5) hT) ?_
 rintro e_ w_6 ⟨rfl, k_11⟩
 refine ⟨.s (Lib.itoa t_Argon_Passes), rfl, ?_⟩
 refine ⟨k_11, fun _ => ?_⟩
 obtain ⟨u6, h_u6, hm⟩ := ob hm
 obtain ⟨u7, h_u7, hm⟩ := ob hm
 refine MXq 2 6 [] (.n 27 (.s ((((((([36, 97, 114, 103, 111, 110, 50] : List UInt8) ++ r_1) ++ ([36, 118, 61, 49, 57, 36, 109, 61] : List UInt8)) ++ (Lib.itoa t_Argon_Memory)) ++ ([44, 116, 61] : List UInt8)) ++ (Lib.itoa t_Argon_Passes)) ++ ([44, 112, 61] : List UInt8))) (.ss (.kkk .z))) (fun x hx => qp (((((([36, 97, 114, 103, 111, 110, 50] : List UInt8) ++ r_1) ++ ([36, 118, 61, 49, 57, 36, 109, 61] : List UInt8)) ++ (Lib.itoa t_Argon_Memory)) ++ ([44, 116, 61] : List UInt8)).length + (Lib.itoa t_Argon_Passes).length ≤ 9223372036854775807) (need_some h_u6) <| qp ((((((([36, 97, 114, 103, 111, 110, 50] : List UInt8) ++ r_1) ++ ([36, 118, 61, 49, 57, 36, 109, 61] : List UInt8)) ++ (Lib.itoa t_Argon_Memory)) ++ ([44, 116, 61] : List UInt8)) ++ (Lib.itoa t_Argon_Passes)).length + ([44, 112, 61] : List UInt8).length ≤ 9223372036854775807) (need_some h_u7) <| qe) (by kernel_rfl) (fun _ => ?_)
 refine MX_op (by kernel_rfl) rfl ?_
 obtain ⟨u8, h_u8, hm⟩ := ob hm
 refine Op_call [] 30 _ ph_go14 (by kernel_rfl) (ph_itoa14 k_11 (need_some h_u8) hT) ?_
 rintro e_ w_7 ⟨rfl, k_12⟩
 refine ⟨.s (Lib.itoa t_Argon_Lanes), rfl, ?_⟩
 refine ⟨k_12, fun _ => ?_⟩
 obtain ⟨u9, h_u9, hm⟩ := ob hm
 obtain ⟨u10, h_u10, hm⟩ := ob hm
 refine MXq 2 6 [] (.n 32 (.s ((((((((([36, 97, 114, 103, 111, 110, 50] : List UInt8) ++ r_1) ++ ([36, 118, 61, 49, 57, 36, 109, 61] : List UInt8)) ++ (Lib.itoa t_Argon_Memory)) ++ ([44, 116, 61] : List UInt8)) ++ (Lib.itoa t_Argon_Passes)) ++ ([44, 112, 61] : List UInt8)) ++ (Lib.itoa t_Argon_Lanes)) ++ ([36] : List UInt8))) (.ss (.kk .z))) (fun x hx => qp (((((((([36, 97, 114, 103, 111, 110, 50] : List UInt8) ++ r_1) ++ ([36, 118, 61, 49, 57, 36, 109, 61] : List UInt8)) ++ (Lib.itoa t_Argon_Memory)) ++ ([44, 116, 61] : List UInt8)) ++ (Lib.itoa t_Argon_Passes)) ++ ([44, 112, 61] : List UInt8)).length + (Lib.itoa t_Argon_Lanes).length ≤ 9223372036854775807) (need_some h_u9) <| qp ((((((((([36, 97, 114, 103, 111, 110, 50] : List UInt8) ++ r_1) ++ ([36, 118, 61, 49, 57, 36, 109, 61] : List UInt8)) ++ (Lib.itoa t_Argon_Memory)) ++ ([44, 116, 61] : List UInt8)) ++ (Lib.itoa t_Argon_Passes)) ++ ([44, 112, 61] : List UInt8)) ++ (Lib.itoa t_Argon_Lanes)).length + ([36] : List UInt8).length ≤ 9223372036854775807) (need_some h_u10) <| qe) (by kernel_rfl) (fun _ => ?_)
 refine MX_op (by kernel_rfl) rfl ?_
 have k_13 := k_12.sel (.kk .e)
 obtain ⟨r_2, h_r_2, hm⟩ := ob hm
 refine Op_call [] 35 _ ph_go15 (by kernel_rfl) (c_word_Base64 (F := N0) (O := N0) _ _ _ _ (Ro.n0 (h_t_Salt.cx k_13)) rfl hc_t_Salt (Cx.refl _) _ h_r_2) ?_
 rintro e_ w_8 ⟨rfl, k_14⟩
 have k_15 := k_13.call k_14
 refine ⟨.s r_2, rfl, ?_⟩
 refine ⟨k_15, fun _ => ?_⟩
 obtain ⟨u11, h_u11, hm⟩ := ob hm
 obtain ⟨u12, h_u12, hm⟩ := ob hm
 refine MXq 2 6 [] (.n 37 (.s ((((((((((([36, 97, 114, 103, 111, 110, 50] : List UInt8) ++ r_1) ++ ([36, 118, 61, 49, 57, 36, 109, 61] : List UInt8)) ++ (Lib.itoa t_Argon_Memory)) ++ ([44, 116, 61] : List UInt8)) ++ (Lib.itoa t_Argon_Passes)) ++ ([44, 112, 61] : List UInt8)) ++ (Lib.itoa t_Argon_Lanes)) ++ ([36] : List UInt8)) ++ r_2) ++ ([36] : List UInt8))) (.ss (.k .z))) (fun x hx => qp (((((((((([36, 97, 114, 103, 111, 110, 50] : List UInt8) ++ r_1) ++ ([36, 118, 61, 49, 57, 36, 109, 61] : List UInt8)) ++ (Lib.itoa t_Argon_Memory)) ++ ([44, 116, 61] : List UInt8)) ++ (Lib.itoa t_Argon_Passes)) ++ ([44, 112, 61] : List UInt8)) ++ (Lib.itoa t_Argon_Lanes)) ++ ([36] : List UInt8)).length + r_2.length ≤ 9223372036854775807) (need_some h_u11) <| qp ((((((((((([36, 97, 114, 103, 111, 110, 50] : List UInt8) ++ r_1) ++ ([36, 118, 61, 49, 57, 36, 109, 61] : List UInt8)) ++ (Lib.itoa t_Argon_Memory)) ++ ([44, 116, 61] : List UInt8)) ++ (Lib.itoa t_Argon_Passes)) ++ ([44, 112, 61] : List UInt8)) ++ (Lib.itoa t_Argon_Lanes)) ++ ([36] : List UInt8)) ++ r_2).length + ([36] : List UInt8).length ≤ 9223372036854775807) (need_some h_u12) <| qe) (by kernel_rfl) (fun _ => ?_)
 refine MX_op (by kernel_rfl) rfl ?_
 obtain ⟨r_3, h_r_3, hm⟩ := ob hm
 refine Op_call [] 40 _ ph_go15 (by kernel_rfl) (c_word_Base64 (F := N0) (O := N0) _ _ _ _ (Ro.n0 (h_t_Sum.cx k_15)) rfl hc_t_Sum (Cx.refl _) _ h_r_3) ?_
 rintro e_ w_9 ⟨rfl, k_16⟩
 have k_17 := k_15.call k_16
 refine ⟨.s r_3, rfl, ?_⟩
 refine ⟨k_17, fun _ => ?_⟩
 obtain ⟨u13, h_u13, hm⟩ := ob hm
 refine MXq 3 6 [] (.n 2 (.s (((((((((((([36, 97, 114, 103, 111, 110, 50] : List UInt8) ++ r_1) ++ ([36, 118, 61, 49, 57, 36, 109, 61] : List UInt8)) ++ (Lib.itoa t_Argon_Memory)) ++ ([44, 116, 61] : List UInt8)) ++ (Lib.itoa t_Argon_Passes)) ++ ([44, 112, 61] : List UInt8)) ++ (Lib.itoa t_Argon_Lanes)) ++ ([36] : List UInt8)) ++ r_2) ++ ([36] : List UInt8)) ++ r_3)) (.n 3 (I 0) .z)) (fun x hx => qp (((((((((((([36, 97, 114, 103, 111, 110, 50] : List UInt8) ++ r_1) ++ ([36, 118, 61, 49, 57, 36, 109, 61] : List UInt8)) ++ (Lib.itoa t_Argon_Memory)) ++ ([44, 116, 61] : List UInt8)) ++ (Lib.itoa t_Argon_Passes)) ++ ([44, 112, 61] : List UInt8)) ++ (Lib.itoa t_Argon_Lanes)) ++ ([36] : List UInt8)) ++ r_2) ++ ([36] : List UInt8)).length + r_3.length ≤ 9223372036854775807) (need_some h_u13) <| qe) (by kernel_rfl) (fun _ => ?_)
 refine MX_nil <| At_go <| W_ret ?_
 obtain rfl := Option.some.inj hm
 refine At_rt [.s (((((((((((([36, 97, 114, 103, 111, 110, 50] : List UInt8) ++ r_1) ++ ([36, 118, 61, 49, 57, 36, 109, 61] : List UInt8)) ++ (Lib.itoa t_Argon_Memory)) ++ ([44, 116, 61] : List UInt8)) ++ (Lib.itoa t_Argon_Passes)) ++ ([44, 112, 61] : List UInt8)) ++ (Lib.itoa t_Argon_Lanes)) ++ ([36] : List UInt8)) ++ r_2) ++ ([36] : List UInt8)) ++ r_3), I 0] qe (by kernel_rfl) ?_
 have k_18 := k_17.sel .z
 exact ⟨rfl, k_18⟩

-- quern/quernref20.Valid
theorem c_r20_Valid {F O : Nat → Prop} {w : World} (a_Kind : Int) (a_Memory : Int) (a_Passes : Int) (a_Lanes : Int) (a_Tag : Int) (k : Cx F O w w []) (r : Int) (hm : m_r20_Valid a_Kind a_Memory a_Passes a_Lanes a_Tag = some r) :
    Calls Tryd.prog 31 (vals [.agg [I a_Kind, I a_Memory, I a_Passes, I a_Lanes, I a_Tag]]) w (fun e w' => e = .returned (SV.val (I r)) ∧ Cx F O w w' []) := by
 unfold m_r20_Valid at hm
 refine calls [.agg [I a_Kind, I a_Memory, I a_Passes, I a_Lanes, I a_Tag]] Tryd.func31 rfl (of_decide_eq_true (by kernel_rfl)) ?_
 refine W_seq <| W_reg <| WL_op <| Op_box [] 1 (.agg [I a_Kind, I a_Memory, I a_Passes, I a_Lanes, I a_Tag]) [I a_Kind, I a_Memory, I a_Passes, I a_Lanes, I a_Tag] (by kernel_rfl) k ?_
 intro g w_ k_
 refine WLs 1 [] (.k .z) qe (by kernel_rfl) ?_
 refine WL_nil <| At_go <| W_seq <| W_seq <| W_q [] (.n 53 (.b ((((((((((decide (a_Kind < 0)) || (decide (2 < a_Kind))) || (decide (a_Lanes < 1))) || (decide (8 < a_Lanes))) || (decide (a_Memory < (w64 (8 * a_Lanes))))) || (decide (4096 < a_Memory))) || (decide (a_Passes < 1))) || (decide (16 < a_Passes))) || (decide (a_Tag < 4))) || (decide (1024 < a_Tag)))) .z) (qs g 0 <| qB k_ 0 rfl 0 (I a_Kind) (by kernel_rfl) <| qp ((decide (a_Kind < 0)) = false → (some ⟨g, 0, none⟩ : Option Addr).isSome = true) (fun hg0 => rfl) <| qo (I a_Kind) <| qc (fun w => (decide (a_Kind < 0)) = false → ∃ a, (some ⟨g, 0, none⟩ : Option Addr) = some a ∧ w.cell? a = some (SV.val (I a_Kind))) (fun hg0 => k_.bld 0 rfl 0 (I a_Kind) (by kernel_rfl)) <| qp (((decide (a_Kind < 0)) || (decide (2 < a_Kind))) = false → (some ⟨g, 0, none⟩ : Option Addr).isSome = true) (fun hg0 => rfl) <| qo (I a_Lanes) <| qc (fun w => ((decide (a_Kind < 0)) || (decide (2 < a_Kind))) = false → ∃ a, (some ⟨g, 3, none⟩ : Option Addr) = some a ∧ w.cell? a = some (SV.val (I a_Lanes))) (fun hg0 => k_.bld 0 rfl 3 (I a_Lanes) (by kernel_rfl)) <| qp ((((decide (a_Kind < 0)) || (decide (2 < a_Kind))) || (decide (a_Lanes < 1))) = false → (some ⟨g, 0, none⟩ : Option Addr).isSome = true) (fun hg0 => rfl) <| qo (I a_Lanes) <| qc (fun w => (((decide (a_Kind < 0)) || (decide (2 < a_Kind))) || (decide (a_Lanes < 1))) = false → ∃ a, (some ⟨g, 3, none⟩ : Option Addr) = some a ∧ w.cell? a = some (SV.val (I a_Lanes))) (fun hg0 => k_.bld 0 rfl 3 (I a_Lanes) (by kernel_rfl)) <| qp (((((decide (a_Kind < 0)) || (decide (2 < a_Kind))) || (decide (a_Lanes < 1))) || (decide (8 < a_Lanes))) = false → (some ⟨g, 0, none⟩ : Option Addr).isSome = true) (fun hg0 => rfl) <| qo (I a_Memory) <| qc (fun w => ((((decide (a_Kind < 0)) || (decide (2 < a_Kind))) || (decide (a_Lanes < 1))) || (decide (8 < a_Lanes))) = false → ∃ a, (some ⟨g, 1, none⟩ : Option Addr) = some a ∧ w.cell? a = some (SV.val (I a_Memory))) (fun hg0 => k_.bld 0 rfl 1 (I a_Memory) (by kernel_rfl)) <| qp (((((decide (a_Kind < 0)) || (decide (2 < a_Kind))) || (decide (a_Lanes < 1))) || (decide (8 < a_Lanes))) = false → (some ⟨g, 0, none⟩ : Option Addr).isSome = true) (fun hg0 => rfl) <| qo (I a_Lanes) <| qc (fun w => ((((decide (a_Kind < 0)) || (decide (2 < a_Kind))) || (decide (a_Lanes < 1))) || (decide (8 < a_Lanes))) = false → ∃ a, (some ⟨g, 3, none⟩ : Option Addr) = some a ∧ w.cell? a = some (SV.val (I a_Lanes))) (fun hg0 => k_.bld 0 rfl 3 (I a_Lanes) (by kernel_rfl)) <| qp ((((((decide (a_Kind < 0)) || (decide (2 < a_Kind))) || (decide (a_Lanes < 1))) || (decide (8 < a_Lanes))) || (decide (a_Memory < (w64 (8 * a_Lanes))))) = false → (some ⟨g, 0, none⟩ : Option Addr).isSome = true) (fun hg0 => rfl) <| qo (I a_Memory) <| qc (fun w => (((((decide (a_Kind < 0)) || (decide (2 < a_Kind))) || (decide (a_Lanes < 1))) || (decide (8 < a_Lanes))) || (decide (a_Memory < (w64 (8 * a_Lanes))))) = false → ∃ a, (some ⟨g, 1, none⟩ : Option Addr) = some a ∧ w.cell? a = some (SV.val (I a_Memory))) (fun hg0 => k_.bld 0 rfl 1 (I a_Memory) (by kernel_rfl)) <| qp (((((((decide (a_Kind < 0)) || (decide (2 < a_Kind))) || (decide (a_Lanes < 1))) || (decide (8 < a_Lanes))) || (decide (a_Memory < (w64 (8 * a_Lanes))))) || (decide (4096 < a_Memory))) = false → (some ⟨g, 0, none⟩ : Option Addr).isSome = true) (fun hg0 => rfl) <| qo (I a_Passes) <| qc (fun w => ((((((decide (a_Kind < 0)) || (decide (2 < a_Kind))) || (decide (a_Lanes < 1))) || (decide (8 < a_Lanes))) || (decide (a_Memory < (w64 (8 * a_Lanes))))) || (decide (4096 < a_Memory))) = false → ∃ a, (some ⟨g, 2, none⟩ : Option Addr) = some a ∧ w.cell? a = some (SV.val (I a_Passes))) (fun hg0 => k_.bld 0 rfl 2 (I a_Passes) (by kernel_rfl)) <| qp ((((((((decide (a_Kind < 0)) || (decide (2 < a_Kind))) || (decide (a_Lanes < 1))) || (decide (8 < a_Lanes))) || (decide (a_Memory < (w64 (8 * a_Lanes))))) || (decide (4096 < a_Memory))) || (decide (a_Passes < 1))) = false → (some ⟨g, 0, none⟩ : Option Addr).isSome = true) (fun hg0 => rfl) <| qo (I a_Passes) <| qc (fun w => (((((((decide (a_Kind < 0)) || (decide (2 < a_Kind))) || (decide (a_Lanes < 1))) || (decide (8 < a_Lanes))) || (decide (a_Memory < (w64 (8 * a_Lanes))))) || (decide (4096 < a_Memory))) || (decide (a_Passes < 1))) = false → ∃ a, (some ⟨g, 2, none⟩ : Option Addr) = some a ∧ w.cell? a = some (SV.val (I a_Passes))) (fun hg0 => k_.bld 0 rfl 2 (I a_Passes) (by kernel_rfl)) <| qp (((((((((decide (a_Kind < 0)) || (decide (2 < a_Kind))) || (decide (a_Lanes < 1))) || (decide (8 < a_Lanes))) || (decide (a_Memory < (w64 (8 * a_Lanes))))) || (decide (4096 < a_Memory))) || (decide (a_Passes < 1))) || (decide (16 < a_Passes))) = false → (some ⟨g, 0, none⟩ : Option Addr).isSome = true) (fun hg0 => rfl) <| qo (I a_Tag) <| qc (fun w => ((((((((decide (a_Kind < 0)) || (decide (2 < a_Kind))) || (decide (a_Lanes < 1))) || (decide (8 < a_Lanes))) || (decide (a_Memory < (w64 (8 * a_Lanes))))) || (decide (4096 < a_Memory))) || (decide (a_Passes < 1))) || (decide (16 < a_Passes))) = false → ∃ a, (some ⟨g, 4, none⟩ : Option Addr) = some a ∧ w.cell? a = some (SV.val (I a_Tag))) (fun hg0 => k_.bld 0 rfl 4 (I a_Tag) (by kernel_rfl)) <| qp ((((((((((decide (a_Kind < 0)) || (decide (2 < a_Kind))) || (decide (a_Lanes < 1))) || (decide (8 < a_Lanes))) || (decide (a_Memory < (w64 (8 * a_Lanes))))) || (decide (4096 < a_Memory))) || (decide (a_Passes < 1))) || (decide (16 < a_Passes))) || (decide (a_Tag < 4))) = false → (some ⟨g, 0, none⟩ : Option Addr).isSome = true) (fun hg0 => rfl) <| qo (I a_Tag) <| qc (fun w => (((((((((decide (a_Kind < 0)) || (decide (2 < a_Kind))) || (decide (a_Lanes < 1))) || (decide (8 < a_Lanes))) || (decide (a_Memory < (w64 (8 * a_Lanes))))) || (decide (4096 < a_Memory))) || (decide (a_Passes < 1))) || (decide (16 < a_Passes))) || (decide (a_Tag < 4))) = false → ∃ a, (some ⟨g, 4, none⟩ : Option Addr) = some a ∧ w.cell? a = some (SV.val (I a_Tag))) (fun hg0 => k_.bld 0 rfl 4 (I a_Tag) (by kernel_rfl)) <| qe) (by kernel_rfl) ?_
 refine At_go <| W_cond ((((((((((decide (a_Kind < 0)) || (decide (2 < a_Kind))) || (decide (a_Lanes < 1))) || (decide (8 < a_Lanes))) || (decide (a_Memory < (w64 (8 * a_Lanes))))) || (decide (4096 < a_Memory))) || (decide (a_Passes < 1))) || (decide (16 < a_Passes))) || (decide (a_Tag < 4))) || (decide (1024 < a_Tag))) (by kernel_rfl) (fun hc => ?_) (fun hc => ?_)
 · rw [if_pos hc] at hm
   refine W_seq <| W_q [] (.n 2 (I 200) .z) qe (by kernel_rfl) ?_
   refine At_go <| W_ret (At_tr ?_)
   obtain rfl := Option.some.inj hm
   refine At_rt [I 200] qe (by kernel_rfl) ?_
   have k_1 := k_.sel .z
   exact ⟨rfl, k_1⟩
 rw [if_neg (by rw [hc]; decide)] at hm
 refine W_skip <| At_go <| W_seq <| W_q [] (.n 2 (I 0) .z) qe (by kernel_rfl) ?_
 refine At_go <| W_ret ?_
 obtain rfl := Option.some.inj hm
 refine At_rt [I 0] qe (by kernel_rfl) ?_
 have k_2 := k_.sel .z
 exact ⟨rfl, k_2⟩

-- quern/quernref20.Check
theorem c_r20_Check {F O : Nat → Prop} {w : World} (a_Kind : Int) (a_Memory : Int) (a_Passes : Int) (a_Lanes : Int) (a_Tag : Int) (salt : List UInt8) (A_salt : Option Addr) (n_salt : Nat) (c_salt : Nat) (h_salt : Ro F w A_salt (e8.all salt)) (hn_salt : salt.length = n_salt) (hc_salt : n_salt ≤ c_salt) (k : Cx F O w w []) (r : Int) (hm : m_r20_Check a_Kind a_Memory a_Passes a_Lanes a_Tag salt = some r) :
    Calls Tryd.prog 11 (vals [.agg [I a_Kind, I a_Memory, I a_Passes, I a_Lanes, I a_Tag], sl A_salt n_salt c_salt]) w (fun e w' => e = .returned (SV.val (I r)) ∧ Cx F O w w' []) := by
 unfold m_r20_Check at hm
 subst hn_salt
 refine calls [.agg [I a_Kind, I a_Memory, I a_Passes, I a_Lanes, I a_Tag], sl A_salt salt.length c_salt] Tryd.func11 rfl (of_decide_eq_true (by kernel_rfl)) ?_
 refine W_seq <| W_reg <| WL_op <| Op_box [] 2 (.agg [I a_Kind, I a_Memory, I a_Passes, I a_Lanes, I a_Tag]) [I a_Kind, I a_Memory, I a_Passes, I a_Lanes, I a_Tag] (by kernel_rfl) k ?_
 intro g w_ k_
 refine WLs 1 [] (.k (.s .a)) qe (by kernel_rfl) ?_
 refine WL_nil <| At_go <| W_seq <| W_reg <| WLs 1 [] (.n 6 (.agg [I a_Kind, I a_Memory, I a_Passes, I a_Lanes, I a_Tag]) (.s .a)) (qT k_ 0 rfl 0 5 [I a_Kind, I a_Memory, I a_Passes, I a_Lanes, I a_Tag] (by kernel_rfl) (by decide) <| qe) (by kernel_rfl) ?_
 refine WL_op ?_
 obtain ⟨r_, h_r_, hm⟩ := ob hm
 refine Op_call [] 7 _ ph_go31 (by kernel_rfl) (c_r20_Valid (F := N0) (O := N0) _ _ _ _ _ (Cx.refl _) _ h_r_) ?_
 rintro e_ w_1 ⟨rfl, k_1⟩
 have k_2 := k_.call k_1
 refine ⟨I r_, rfl, ?_⟩
 have k_3 := k_2.sel .z
 refine WLs 1 [] (.n 5 (I r_) (.ss .a)) qe (by kernel_rfl) ?_
 refine WL_nil <| At_go <| W_seq <| W_seq <| W_q [] (.n 9 (.b (decide (r_ ≠ 0))) .a) qe (by kernel_rfl) ?_
 refine At_go <| W_condp (r_ ≠ 0) (by kernel_rfl) (fun hc => ?_) (fun hc => ?_)
 · rw [if_pos hc] at hm
   refine W_seq <| W_q [] (.n 4 (I r_) .z) qe (by kernel_rfl) ?_
   refine At_go <| W_ret (At_tr ?_)
   obtain rfl := Option.some.inj hm
   refine At_rt [I r_] qe (by kernel_rfl) ?_
   exact ⟨rfl, k_3⟩
 rw [if_neg hc] at hm
 refine W_skip <| At_go <| W_seq <| W_seq <| W_q [] (.n 18 (.b ((decide (((salt.length : Nat) : Int) < 8)) || (decide (64 < ((salt.length : Nat) : Int))))) .z) qe (by kernel_rfl) ?_
 refine At_go <| W_cond ((decide (((salt.length : Nat) : Int) < 8)) || (decide (64 < ((salt.length : Nat) : Int)))) (by kernel_rfl) (fun hc1 => ?_) (fun hc1 => ?_)
 · rw [if_pos hc1] at hm
   refine W_seq <| W_q [] (.n 4 (I 201) .z) qe (by kernel_rfl) ?_
   refine At_go <| W_ret (At_tr ?_)
   obtain rfl := Option.some.inj hm
   refine At_rt [I 201] qe (by kernel_rfl) ?_
   exact ⟨rfl, k_3⟩
 rw [if_neg (by rw [hc1]; decide)] at hm
 refine W_skip <| At_go <| W_seq <| W_q [] (.n 4 (I 0) .z) qe (by kernel_rfl) ?_
 refine At_go <| W_ret ?_
 obtain rfl := Option.some.inj hm
 refine At_rt [I 0] qe (by kernel_rfl) ?_
 exact ⟨rfl, k_3⟩

-- quern/quernref01.Same
theorem c_r01_Same {F O : Nat → Prop} {w : World} (a_ : List UInt8) (b : List UInt8) (A_a_ : Option Addr) (n_a_ : Nat) (c_a_ : Nat) (A_b : Option Addr) (n_b : Nat) (c_b : Nat) (h_a_ : Ro F w A_a_ (e8.all a_)) (hn_a_ : a_.length = n_a_) (hc_a_ : n_a_ ≤ c_a_) (h_b : Ro F w A_b (e8.all b)) (hn_b : b.length = n_b) (hc_b : n_b ≤ c_b) (k : Cx F O w w []) (r : Bool) (hm : m_r01_Same a_ b = some r) :
    Calls Tryd.prog 39 (vals [sl A_a_ n_a_ c_a_, sl A_b n_b c_b]) w (fun e w' => e = .returned (SV.val (.b r)) ∧ Cx F O w w' []) := by
 unfold m_r01_Same at hm
 subst hn_a_
 subst hn_b
 refine calls [sl A_a_ a_.length c_a_, sl A_b b.length c_b] Tryd.func39 rfl (of_decide_eq_true (by kernel_rfl)) ?_
 refine W_seq <| W_q [] .a qe (by kernel_rfl) ?_
 refine At_go <| W_seq <| W_seq <| W_q [] (.n 10 (.b (decide (((a_.length : Nat) : Int) ≠ ((b.length : Nat) : Int)))) .a) qe (by kernel_rfl) ?_
 refine At_go <| W_condp (((a_.length : Nat) : Int) ≠ ((b.length : Nat) : Int)) (by kernel_rfl) (fun hc => ?_) (fun hc => ?_)
 · rw [if_pos hc] at hm
   refine W_seq <| W_q [] (.n 4 (.b false) .z) qe (by kernel_rfl) ?_
   refine At_go <| W_ret (At_tr ?_)
   obtain rfl := Option.some.inj hm
   refine At_rt [.b false] qe (by kernel_rfl) ?_
   exact ⟨rfl, k⟩
 rw [if_neg hc] at hm
 refine W_skip <| At_go <| W_seq <| W_seq <| W_q [] (.n 5 (I 0) (.s .a)) qe (by kernel_rfl) ?_
 refine At_go <| W_block <| W_lp (m_r01_Same_l0 a_ b) (fun s L wr => ∃ (i : Int), i = s ∧ L = [(0, sl A_a_ a_.length c_a_), (1, sl A_b b.length c_b), (5, I i)] ∧ Cx F O w wr []) (0 : Int) r hm ⟨(0 : Int), rfl, rfl, k⟩ (by kernel_rfl) ?_
 intro s0_ L_ w_ y0 hrel hstep hr0
 obtain ⟨i, rfl, rfl, k_⟩ := hrel
 have hm := hstep; simp only [m_r01_Same_l0] at hm
 clear hstep
 refine W_seq <| W_seq <| W_q [] (.n 14 (.b (decide (i < ((a_.length : Nat) : Int)))) .a) qe (by kernel_rfl) ?_
 refine At_go <| W_condp (i < ((a_.length : Nat) : Int)) (by kernel_rfl) (fun hc1 => ?_) (fun hc1 => ?_)
 · rw [if_pos hc1] at hm
   refine W_skip <| At_go <| W_seq <| W_block <| W_seq ?_
   obtain ⟨x_0, h_x_0, hm⟩ := ob hm
   obtain ⟨x_1, h_x_1, hm⟩ := ob hm
   refine W_d ph_mixed (by kernel_rfl) (.n 25 (.b (decide (x_0 ≠ x_1))) (.s .a)) (fun m => qW (h_a_.cx (k_.drew m)) h_x_0 rfl (.u8 x_0) rfl <| qW (h_b.cx (k_.drew m)) h_x_1 rfl (.u8 x_1) rfl <| qe) (by kernel_rfl) (fun m_ => ?_)
   have k_1 := k_.drew m_
   refine At_go <| W_condp (x_0 ≠ x_1) (by kernel_rfl) (fun hc2 => ?_) (fun hc2 => ?_)
   · rw [if_pos hc2] at hm
     refine W_seq <| W_q [] (.n 4 (.b false) .z) qe (by kernel_rfl) ?_
     refine At_go <| W_ret (At_ir (At_tr (At_tr (At_ir (At_tr ?_)))))
     have hm := exit_of hm hr0
     obtain rfl := Option.some.inj hm
     refine At_rt [.b false] qe (by kernel_rfl) ?_
     exact ⟨rfl, k_1⟩
   rw [if_neg hc2] at hm
   refine W_skip <| At_in <| At_go <| W_q [] (.n 5 (I (w64 (i + 1))) (.s (.kk .z))) qe (by kernel_rfl) ?_
   exact At_rd (w64 (i + 1)) (Option.some.inj hm).symm ⟨w64 (i + 1), rfl, rfl, k_1⟩ (by kernel_rfl)
 rw [if_neg hc1] at hm
 refine W_exit (At_te (At_te (At_ie ?_)))
 have hm := exit_of hm hr0
 refine At_go <| W_seq <| W_q [] (.n 4 (.b true) .z) qe (by kernel_rfl) ?_
 refine At_go <| W_ret ?_
 obtain rfl := Option.some.inj hm
 refine At_rt [.b true] qe (by kernel_rfl) ?_
 exact ⟨rfl, k_⟩

-- quern/quernlaw21.same
theorem c_l21_same {F O : Nat → Prop} {w : World} (a_ : List UInt8) (b : List UInt8) (A_a_ : Option Addr) (n_a_ : Nat) (c_a_ : Nat) (A_b : Option Addr) (n_b : Nat) (c_b : Nat) (h_a_ : Ro F w A_a_ (e8.all a_)) (hn_a_ : a_.length = n_a_) (hc_a_ : n_a_ ≤ c_a_) (h_b : Ro F w A_b (e8.all b)) (hn_b : b.length = n_b) (hc_b : n_b ≤ c_b) (k : Cx F O w w []) (r : Bool) (hm : m_l21_same a_ b = some r) :
    Calls Tryd.prog 30 (vals [sl A_a_ n_a_ c_a_, sl A_b n_b c_b]) w (fun e w' => e = .returned (SV.val (.b r)) ∧ Cx F O w w' []) := by
 unfold m_l21_same at hm
 subst hn_a_
 subst hn_b
 refine calls [sl A_a_ a_.length c_a_, sl A_b b.length c_b] Tryd.func30 rfl (of_decide_eq_true (by kernel_rfl)) ?_
 refine W_seq <| W_q [] .a qe (by kernel_rfl) ?_
 refine At_go <| W_seq <| W_reg <| WLs 2 [] (.n 5 (sl A_a_ a_.length c_a_) (.n 6 (sl A_b b.length c_b) .z)) qe (by kernel_rfl) ?_
 refine WL_op ?_
 obtain ⟨r_, h_r_, hm⟩ := ob hm
 refine Op_call [] 7 _ ph_go39 (by kernel_rfl) (c_r01_Same (F := N0) (O := N0) _ _ _ _ _ _ _ _ (Ro.n0 (h_a_.cx k)) rfl hc_a_ (Ro.n0 (h_b.cx k)) rfl hc_b (Cx.refl _) _ h_r_) ?_
 rintro e_ w_ ⟨rfl, k_⟩
 have k_1 := k.call k_
 refine ⟨.b r_, rfl, ?_⟩
 refine WLs 1 [] (.n 4 (.b r_) .z) qe (by kernel_rfl) ?_
 refine WL_nil <| At_go <| W_ret ?_
 obtain rfl := Option.some.inj hm
 refine At_rt [.b r_] qe (by kernel_rfl) ?_
 exact ⟨rfl, k_1⟩

-- quern/quernlaw21.alike
theorem c_l21_alike {F O : Nat → Prop} {w : World} (t_Argon_Kind : Int) (t_Argon_Memory : Int) (t_Argon_Passes : Int) (t_Argon_Lanes : Int) (t_Argon_Tag : Int) (t_Salt : List UInt8) (t_Sum : List UInt8) (u_Argon_Kind : Int) (u_Argon_Memory : Int) (u_Argon_Passes : Int) (u_Argon_Lanes : Int) (u_Argon_Tag : Int) (u_Salt : List UInt8) (u_Sum : List UInt8) (A_t_Salt : Option Addr) (n_t_Salt : Nat) (c_t_Salt : Nat) (A_t_Sum : Option Addr) (n_t_Sum : Nat) (c_t_Sum : Nat) (A_u_Salt : Option Addr) (n_u_Salt : Nat) (c_u_Salt : Nat) (A_u_Sum : Option Addr) (n_u_Sum : Nat) (c_u_Sum : Nat) (h_t_Salt : Ro F w A_t_Salt (e8.all t_Salt)) (hn_t_Salt : t_Salt.length = n_t_Salt) (hc_t_Salt : n_t_Salt ≤ c_t_Salt) (h_t_Sum : Ro F w A_t_Sum (e8.all t_Sum)) (hn_t_Sum : t_Sum.length = n_t_Sum) (hc_t_Sum : n_t_Sum ≤ c_t_Sum) (h_u_Salt : Ro F w A_u_Salt (e8.all u_Salt)) (hn_u_Salt : u_Salt.length = n_u_Salt) (hc_u_Salt : n_u_Salt ≤ c_u_Salt) (h_u_Sum : Ro F w A_u_Sum (e8.all u_Sum)) (hn_u_Sum : u_Sum.length = n_u_Sum) (hc_u_Sum : n_u_Sum ≤ c_u_Sum) (k : Cx F O w w []) (r : Bool) (hm : m_l21_alike t_Argon_Kind t_Argon_Memory t_Argon_Passes t_Argon_Lanes t_Argon_Tag t_Salt t_Sum u_Argon_Kind u_Argon_Memory u_Argon_Passes u_Argon_Lanes u_Argon_Tag u_Salt u_Sum = some r) :
    Calls Tryd.prog 9 (vals [.agg [I t_Argon_Kind, I t_Argon_Memory, I t_Argon_Passes, I t_Argon_Lanes, I t_Argon_Tag, sl A_t_Salt n_t_Salt c_t_Salt, sl A_t_Sum n_t_Sum c_t_Sum], .agg [I u_Argon_Kind, I u_Argon_Memory, I u_Argon_Passes, I u_Argon_Lanes, I u_Argon_Tag, sl A_u_Salt n_u_Salt c_u_Salt, sl A_u_Sum n_u_Sum c_u_Sum]]) w (fun e w' => e = .returned (SV.val (.b r)) ∧ Cx F O w w' []) := by
 unfold m_l21_alike at hm
 subst hn_t_Salt
 subst hn_t_Sum
 subst hn_u_Salt
 subst hn_u_Sum
 refine calls [.agg [I t_Argon_Kind, I t_Argon_Memory, I t_Argon_Passes, I t_Argon_Lanes, I t_Argon_Tag, sl A_t_Salt t_Salt.length c_t_Salt, sl A_t_Sum t_Sum.length c_t_Sum], .agg [I u_Argon_Kind, I u_Argon_Memory, I u_Argon_Passes, I u_Argon_Lanes, I u_Argon_Tag, sl A_u_Salt u_Salt.length c_u_Salt, sl A_u_Sum u_Sum.length c_u_Sum]] Tryd.func9 rfl (of_decide_eq_true (by kernel_rfl)) ?_
 refine W_seq <| W_reg <| WL_op <| Op_box [] 2 (.agg [I t_Argon_Kind, I t_Argon_Memory, I t_Argon_Passes, I t_Argon_Lanes, I t_Argon_Tag, sl A_t_Salt t_Salt.length c_t_Salt, sl A_t_Sum t_Sum.length c_t_Sum]) [I t_Argon_Kind, I t_Argon_Memory, I t_Argon_Passes, I t_Argon_Lanes, I t_Argon_Tag, sl A_t_Salt t_Salt.length c_t_Salt, sl A_t_Sum t_Sum.length c_t_Sum] (by kernel_rfl) k ?_
 intro g w_ k_
 refine WL_op <| Op_box [] 3 (.agg [I u_Argon_Kind, I u_Argon_Memory, I u_Argon_Passes, I u_Argon_Lanes, I u_Argon_Tag, sl A_u_Salt u_Salt.length c_u_Salt, sl A_u_Sum u_Sum.length c_u_Sum]) [I u_Argon_Kind, I u_Argon_Memory, I u_Argon_Passes, I u_Argon_Lanes, I u_Argon_Tag, sl A_u_Salt u_Salt.length c_u_Salt, sl A_u_Sum u_Sum.length c_u_Sum] (by kernel_rfl) k_ ?_
 intro g1 w_1 k_1
 refine WLs 1 [] (.kk .z) qe (by kernel_rfl) ?_
 refine WL_nil <| At_go <| W_seq <| W_reg <| WLs 6 [] (.n 10 (.b (decide (t_Argon_Kind = u_Argon_Kind) && (decide (t_Argon_Memory = u_Argon_Memory) && (decide (t_Argon_Passes = u_Argon_Passes) && (decide (t_Argon_Lanes = u_Argon_Lanes) && (decide (t_Argon_Tag = u_Argon_Tag) && true)))))) .a) (qs g 0 <| qT k_1 0 rfl 0 5 [I t_Argon_Kind, I t_Argon_Memory, I t_Argon_Passes, I t_Argon_Lanes, I t_Argon_Tag] (by kernel_rfl) (by decide) <| qs g1 0 <| qT k_1 1 rfl 0 5 [I u_Argon_Kind, I u_Argon_Memory, I u_Argon_Passes, I u_Argon_Lanes, I u_Argon_Tag] (by kernel_rfl) (by decide) <| qe) (by kernel_rfl) ?_
 refine WL_sp 10 (decide (t_Argon_Kind = u_Argon_Kind) && (decide (t_Argon_Memory = u_Argon_Memory) && (decide (t_Argon_Passes = u_Argon_Passes) && (decide (t_Argon_Lanes = u_Argon_Lanes) && (decide (t_Argon_Tag = u_Argon_Tag) && true))))) (.s .a) (by kernel_rfl) (fun hg => ?_) (fun hg => ?_)
 · rw [if_pos hg] at hm
   refine WLs 4 [10] (.n 12 (sl A_t_Salt t_Salt.length c_t_Salt) (.n 14 (sl A_u_Salt u_Salt.length c_u_Salt) .a)) (qs g 0 <| qB k_1 0 rfl 5 (sl A_t_Salt t_Salt.length c_t_Salt) (by kernel_rfl) <| qs g1 0 <| qB k_1 1 rfl 5 (sl A_u_Salt u_Salt.length c_u_Salt) (by kernel_rfl) <| qe) (by kernel_rfl) ?_
   refine WL_op ?_
   obtain ⟨r_, h_r_, hm⟩ := ob hm
   refine Op_call [10] 15 _ ph_go30 (by kernel_rfl) (c_l21_same (F := N0) (O := N0) _ _ _ _ _ _ _ _ (Ro.n0 (h_t_Salt.cx k_1)) rfl hc_t_Salt (Ro.n0 (h_u_Salt.cx k_1)) rfl hc_u_Salt (Cx.refl _) _ h_r_) ?_
   rintro e_ w_2 ⟨rfl, k_2⟩
   have k_3 := k_1.call k_2
   refine ⟨.b r_, rfl, ?_⟩
   refine WLs 2 [10] (.n 17 (.b r_) (.ssss .a)) qe (by kernel_rfl) ?_
   refine WL_sp 17 r_ (.s .a) (by kernel_rfl) (fun hg1 => ?_) (fun hg1 => ?_)
   · rw [if_pos hg1] at hm
     refine WLs 4 [17] (.n 19 (sl A_t_Sum t_Sum.length c_t_Sum) (.n 21 (sl A_u_Sum u_Sum.length c_u_Sum) (.k .z))) (qs g 0 <| qB k_3 0 rfl 6 (sl A_t_Sum t_Sum.length c_t_Sum) (by kernel_rfl) <| qs g1 0 <| qB k_3 1 rfl 6 (sl A_u_Sum u_Sum.length c_u_Sum) (by kernel_rfl) <| qe) (by kernel_rfl) ?_
     refine WL_op ?_
     obtain ⟨r_1, h_r_1, hm⟩ := ob hm
     refine Op_call [17] 22 _ ph_go30 (by kernel_rfl) (c_l21_same (F := N0) (O := N0) _ _ _ _ _ _ _ _ (Ro.n0 (h_t_Sum.cx k_3)) rfl hc_t_Sum (Ro.n0 (h_u_Sum.cx k_3)) rfl hc_u_Sum (Cx.refl _) _ h_r_1) ?_
     rintro e_ w_3 ⟨rfl, k_4⟩
     have k_5 := k_3.call k_4
     refine ⟨.b r_1, rfl, ?_⟩
     have k_6 := k_5.sel .z
     refine WLs 2 [17] (.n 4 (.b r_1) .z) qe (by kernel_rfl) ?_
     refine WL_nil <| At_go <| W_ret ?_
     obtain rfl := Option.some.inj hm
     refine At_rt [.b r_1] qe (by kernel_rfl) ?_
     exact ⟨rfl, k_6⟩
   · rw [if_neg (by rw [hg1]; decide)] at hm
     refine WLs 7 [17] (.n 4 (.b false) .z) qe (by kernel_rfl) ?_
     refine WL_nil <| At_go <| W_ret ?_
     obtain rfl := Option.some.inj hm
     refine At_rt [.b false] qe (by kernel_rfl) ?_
     have k_7 := k_3.sel .z
     exact ⟨rfl, k_7⟩
 · rw [if_neg (by rw [hg]; decide)] at hm
   refine WLs 7 [10] (.n 17 (.b false) (.s .a)) qe (by kernel_rfl) ?_
   refine WLs 7 [17] (.n 4 (.b false) .z) qe (by kernel_rfl) ?_
   refine WL_nil <| At_go <| W_ret ?_
   obtain rfl := Option.some.inj hm
   refine At_rt [.b false] qe (by kernel_rfl) ?_
   have k_8 := k_1.sel .z
   exact ⟨rfl, k_8⟩

-- quern/quernlaw21.PassThere
theorem c_l21_PassThere {F O : Nat → Prop} {w : World} (t_Argon_Kind : Int) (t_Argon_Memory : Int) (t_Argon_Passes : Int) (t_Argon_Lanes : Int) (t_Argon_Tag : Int) (t_Salt : List UInt8) (t_Sum : List UInt8) (s_ : List UInt8) (A_t_Salt : Option Addr) (n_t_Salt : Nat) (c_t_Salt : Nat) (A_t_Sum : Option Addr) (n_t_Sum : Nat) (c_t_Sum : Nat) (h_t_Salt : Ro F w A_t_Salt (e8.all t_Salt)) (hn_t_Salt : t_Salt.length = n_t_Salt) (hc_t_Salt : n_t_Salt ≤ c_t_Salt) (h_t_Sum : Ro F w A_t_Sum (e8.all t_Sum)) (hn_t_Sum : t_Sum.length = n_t_Sum) (hc_t_Sum : n_t_Sum ≤ c_t_Sum) (hT : TabF Tryd.prog F w) (k : Cx F O w w []) (r : Bool) (hm : m_l21_PassThere t_Argon_Kind t_Argon_Memory t_Argon_Passes t_Argon_Lanes t_Argon_Tag t_Salt t_Sum s_ = some r) :
    Calls Tryd.prog 4 (vals [.agg [I t_Argon_Kind, I t_Argon_Memory, I t_Argon_Passes, I t_Argon_Lanes, I t_Argon_Tag, sl A_t_Salt n_t_Salt c_t_Salt, sl A_t_Sum n_t_Sum c_t_Sum], .s s_]) w (fun e w' => e = .returned (SV.val (.b r)) ∧ Cx F O w w' []) := by
 unfold m_l21_PassThere at hm
 subst hn_t_Salt
 subst hn_t_Sum
 refine calls [.agg [I t_Argon_Kind, I t_Argon_Memory, I t_Argon_Passes, I t_Argon_Lanes, I t_Argon_Tag, sl A_t_Salt t_Salt.length c_t_Salt, sl A_t_Sum t_Sum.length c_t_Sum], .s s_] Tryd.func4 rfl (of_decide_eq_true (by kernel_rfl)) ?_
 refine W_seq <| W_reg <| WL_op <| Op_box [] 2 (.agg [I t_Argon_Kind, I t_Argon_Memory, I t_Argon_Passes, I t_Argon_Lanes, I t_Argon_Tag, sl A_t_Salt t_Salt.length c_t_Salt, sl A_t_Sum t_Sum.length c_t_Sum]) [I t_Argon_Kind, I t_Argon_Memory, I t_Argon_Passes, I t_Argon_Lanes, I t_Argon_Tag, sl A_t_Salt t_Salt.length c_t_Salt, sl A_t_Sum t_Sum.length c_t_Sum] (by kernel_rfl) k ?_
 intro g w_ k_
 refine WLs 1 [] (.k (.s .a)) qe (by kernel_rfl) ?_
 refine WL_nil <| At_go <| W_seq <| W_seq <| W_reg <| WL_op ?_
 obtain ⟨r_, h_r_, hm⟩ := ob hm
 refine Op_call [] 16 _ ph_go10 (by kernel_rfl) (c_l21_awake (F := N0) (O := N0)  (Cx.refl _) _ h_r_) ?_
 rintro e_ w_1 ⟨rfl, k_1⟩
 have k_2 := k_.call k_1
 refine ⟨.b r_, rfl, ?_⟩
 refine WLs 1 [] (.n 17 (.b (!r_)) (.s .a)) qe (by kernel_rfl) ?_
 refine WL_nil <| At_go <| W_cond (!r_) (by kernel_rfl) (fun hc => ?_) (fun hc => ?_)
 · rw [if_pos hc] at hm
   refine W_seq <| W_q [] (.n 4 (.b false) .z) qe (by kernel_rfl) ?_
   refine At_go <| W_ret (At_tr ?_)
   obtain rfl := Option.some.inj hm
   refine At_rt [.b false] qe (by kernel_rfl) ?_
   have k_3 := k_2.sel .z
   exact ⟨rfl, k_3⟩
 rw [if_neg (by rw [hc]; decide)] at hm
 refine W_skip <| At_go <| W_seq <| W_reg <| WLs 1 [] (.n 19 (.agg [I t_Argon_Kind, I t_Argon_Memory, I t_Argon_Passes, I t_Argon_Lanes, I t_Argon_Tag, sl A_t_Salt t_Salt.length c_t_Salt, sl A_t_Sum t_Sum.length c_t_Sum]) (.s .a)) (qT k_2 0 rfl 0 7 [I t_Argon_Kind, I t_Argon_Memory, I t_Argon_Passes, I t_Argon_Lanes, I t_Argon_Tag, sl A_t_Salt t_Salt.length c_t_Salt, sl A_t_Sum t_Sum.length c_t_Sum] (by kernel_rfl) (by decide) <| qe) (by kernel_rfl) ?_
 refine WL_op ?_
 obtain ⟨r_1, h_r_1, hm⟩ := ob hm
 refine Op_call [] 20 _ ph_go5 (by kernel_rfl) (c_pass_Print (F := N0) (O := N0) _ _ _ _ _ _ _ _ _ _ _ _ _ (Ro.n0 (h_t_Salt.cx k_2)) rfl hc_t_Salt (Ro.n0 (h_t_Sum.cx k_2)) rfl hc_t_Sum (hT.at k_2) (Cx.refl _) _ h_r_1) ?_
 rintro e_ w_2 ⟨rfl, k_4⟩
 have k_5 := k_2.call k_4
 refine ⟨.tup [.s r_1.1, I r_1.2], rfl, ?_⟩
 refine WLs 5 [] (.n 5 (.s r_1.1) (.n 6 (I r_1.2) (.ss .a))) qe (by kernel_rfl) ?_
 refine WL_nil <| At_go <| W_seq <| W_reg <| WLs 4 [] (.n 24 (.agg [I t_Argon_Kind, I t_Argon_Memory, I t_Argon_Passes, I t_Argon_Lanes, I t_Argon_Tag]) (.n 26 (sl A_t_Salt t_Salt.length c_t_Salt) .a)) (qs g 0 <| qT k_5 0 rfl 0 5 [I t_Argon_Kind, I t_Argon_Memory, I t_Argon_Passes, I t_Argon_Lanes, I t_Argon_Tag] (by kernel_rfl) (by decide) <| qs g 0 <| qB k_5 0 rfl 5 (sl A_t_Salt t_Salt.length c_t_Salt) (by kernel_rfl) <| qe) (by kernel_rfl) ?_
 refine WL_op ?_
 obtain ⟨r_2, h_r_2, hm⟩ := ob hm
 refine Op_call [] 27 _ ph_go11 (by kernel_rfl) (c_r20_Check (F := N0) (O := N0) _ _ _ _ _ _ _ _ _ (Ro.n0 (h_t_Salt.cx k_5)) rfl hc_t_Salt (Cx.refl _) _ h_r_2) ?_
 rintro e_ w_3 ⟨rfl, k_6⟩
 have k_7 := k_5.call k_6
 refine ⟨I r_2, rfl, ?_⟩
 refine WLs 11 [] (.n 7 (.b ((decide (r_2 = 0)) && (decide (((t_Sum.length : Nat) : Int) = t_Argon_Tag)))) (.sss .a)) (qp ((decide (r_2 = 0)) = true → (some ⟨g, 0, none⟩ : Option Addr).isSome = true) (fun hg0 => rfl) <| qo (sl A_t_Sum t_Sum.length c_t_Sum) <| qc (fun w => (decide (r_2 = 0)) = true → ∃ a, (some ⟨g, 6, none⟩ : Option Addr) = some a ∧ w.cell? a = some (SV.val (sl A_t_Sum t_Sum.length c_t_Sum))) (fun hg0 => k_7.bld 0 rfl 6 (sl A_t_Sum t_Sum.length c_t_Sum) (by kernel_rfl)) <| qp ((decide (r_2 = 0)) = true → (some ⟨g, 0, none⟩ : Option Addr).isSome = true) (fun hg0 => rfl) <| qp ((decide (r_2 = 0)) = true → (some ⟨g, 0, none⟩ : Option Addr).isSome = true) (fun hg0 => rfl) <| qo (I t_Argon_Tag) <| qc (fun w => (decide (r_2 = 0)) = true → ∃ a, (some ⟨g, 4, none⟩ : Option Addr) = some a ∧ w.cell? a = some (SV.val (I t_Argon_Tag))) (fun hg0 => k_7.bld 0 rfl 4 (I t_Argon_Tag) (by kernel_rfl)) <| qe) (by kernel_rfl) ?_
 refine WL_nil <| At_go <| W_seq <| W_seq <| W_q [] (.n 41 (.b (decide ((decide (r_1.2 = 0)) ≠ ((decide (r_2 = 0)) && (decide (((t_Sum.length : Nat) : Int) = t_Argon_Tag)))))) (.kk (.s .a))) qe (by kernel_rfl) ?_
 refine At_go <| W_condp ((decide (r_1.2 = 0)) ≠ ((decide (r_2 = 0)) && (decide (((t_Sum.length : Nat) : Int) = t_Argon_Tag)))) (by kernel_rfl) (fun hc1 => ?_) (fun hc1 => ?_)
 · rw [if_pos hc1] at hm
   refine W_seq <| W_q [] (.n 4 (.b false) .z) qe (by kernel_rfl) ?_
   refine At_go <| W_ret (At_tr ?_)
   obtain rfl := Option.some.inj hm
   refine At_rt [.b false] qe (by kernel_rfl) ?_
   have k_8 := k_7.sel .z
   exact ⟨rfl, k_8⟩
 rw [if_neg hc1] at hm
 refine W_skip <| At_go <| W_cut (fun L wr => m_l21_PassThere_j0 s_  = some r ∧ L = [(1, .s s_)] ∧ Cx F O w wr []) ?_ ?_
 ·
  refine W_seq <| W_q [] (.n 42 (.b ((decide (r_2 = 0)) && (decide (((t_Sum.length : Nat) : Int) = t_Argon_Tag)))) (.ss .a)) qe (by kernel_rfl) ?_
  refine At_go <| W_cond ((decide (r_2 = 0)) && (decide (((t_Sum.length : Nat) : Int) = t_Argon_Tag))) (by kernel_rfl) (fun hc2 => ?_) (fun hc2 => ?_)
  · rw [if_pos hc2] at hm
    refine W_seq <| W_reg <| WLs 1 [] (.n 44 (.s r_1.1) (.ss .a)) qe (by kernel_rfl) ?_
    refine WL_op ?_
    have k_9 := k_7.sel (.k .e)
    obtain ⟨r_3, h_r_3, hm⟩ := ob hm
    refine Op_call [] 45 _ ph_go7 (by kernel_rfl) (c_pass_Parse (F := N0) (O := N0) _ (Cx.refl _) _ h_r_3) ?_
    rintro e_ w_4 ⟨A, _, c, A1, _, c1, rfl, rfl, rfl, k_10⟩
    have k_11 := k_9.call k_10
    refine ⟨.tup [.agg [I r_3.1, I r_3.2.1, I r_3.2.2.1, I r_3.2.2.2.1, I r_3.2.2.2.2.1, sl A r_3.2.2.2.2.2.1.length c, sl A1 r_3.2.2.2.2.2.2.1.length c1], I r_3.2.2.2.2.2.2.2.1, I r_3.2.2.2.2.2.2.2.2], rfl, ?_⟩
    refine WLs 4 [] (.n 46 (.agg [I r_3.1, I r_3.2.1, I r_3.2.2.1, I r_3.2.2.2.1, I r_3.2.2.2.2.1, sl A r_3.2.2.2.2.2.1.length c, sl A1 r_3.2.2.2.2.2.2.1.length c1]) (.n 47 (I r_3.2.2.2.2.2.2.2.1) (.n 48 (I r_3.2.2.2.2.2.2.2.2) (.ss .a)))) qe (by kernel_rfl) ?_
    refine WL_op <| Op_alloc [] 8 [I 0, I 0, I 0, I 0, I 0, sl none 0 0, sl none 0 0] (by kernel_rfl) k_11 ?_
    intro g1 w_5 k_12
    refine WL_op <| Op_b [] 3 (.agg [I r_3.1, I r_3.2.1, I r_3.2.2.1, I r_3.2.2.2.1, I r_3.2.2.2.2.1, sl A r_3.2.2.2.2.2.1.length c, sl A1 r_3.2.2.2.2.2.2.1.length c1]) [I r_3.1, I r_3.2.1, I r_3.2.2.1, I r_3.2.2.2.1, I r_3.2.2.2.2.1, sl A r_3.2.2.2.2.2.1.length c, sl A1 r_3.2.2.2.2.2.2.1.length c1] (Pt.at g1 0) k_12 rfl .all (by kernel_rfl) (by kernel_rfl) ?_
    intro w_6 k_13
    refine WLs 2 [] (.n 9 (I r_3.2.2.2.2.2.2.2.1) (.n 10 (I r_3.2.2.2.2.2.2.2.2) (.k (.sss .a)))) qe (by kernel_rfl) ?_
    refine WL_nil <| At_go <| W_seq <| W_reg <| WLs 7 [] (.n 55 (.b ((decide (r_3.2.2.2.2.2.2.2.2 ≠ 0)) || (decide (r_3.2.2.2.2.2.2.2.1 ≠ 0)))) (.ss .a)) qe (by kernel_rfl) ?_
    refine WL_sp 55 ((decide (r_3.2.2.2.2.2.2.2.2 ≠ 0)) || (decide (r_3.2.2.2.2.2.2.2.1 ≠ 0))) (.s .a) (by kernel_rfl) (fun hg => ?_) (fun hg => ?_)
    · rw [if_pos hg] at hm
      refine WLs 5 [55] (.n 60 (.b true) (.sss .a)) qe (by kernel_rfl) ?_
      refine WL_nil <| At_go <| W_cond true (by kernel_rfl) (fun _ => ?_) (fun h => by cases h)
      refine W_seq <| W_q [] (.n 4 (.b false) .z) qe (by kernel_rfl) ?_
      refine At_go <| W_ret (At_tr ?_)
      obtain rfl := Option.some.inj hm
      refine At_rt [.b false] qe (by kernel_rfl) ?_
      have k_14 := k_13.sel .z
      exact ⟨rfl, k_14⟩
    · rw [if_neg (by rw [hg]; decide)] at hm
      refine WLs 2 [55] (.n 56 (.agg [I r_3.1, I r_3.2.1, I r_3.2.2.1, I r_3.2.2.2.1, I r_3.2.2.2.2.1, sl A r_3.2.2.2.2.2.1.length c, sl A1 r_3.2.2.2.2.2.2.1.length c1]) (.n 57 (.agg [I t_Argon_Kind, I t_Argon_Memory, I t_Argon_Passes, I t_Argon_Lanes, I t_Argon_Tag, sl A_t_Salt t_Salt.length c_t_Salt, sl A_t_Sum t_Sum.length c_t_Sum]) (.k (.ss .a)))) (qT k_13 3 rfl 0 7 [I r_3.1, I r_3.2.1, I r_3.2.2.1, I r_3.2.2.2.1, I r_3.2.2.2.2.1, sl A r_3.2.2.2.2.2.1.length c, sl A1 r_3.2.2.2.2.2.2.1.length c1] (by kernel_rfl) (by decide) <| qT k_13 0 rfl 0 7 [I t_Argon_Kind, I t_Argon_Memory, I t_Argon_Passes, I t_Argon_Lanes, I t_Argon_Tag, sl A_t_Salt t_Salt.length c_t_Salt, sl A_t_Sum t_Sum.length c_t_Sum] (by kernel_rfl) (by decide) <| qe) (by kernel_rfl) ?_
      refine WL_op ?_
      obtain ⟨r_4, h_r_4, hm⟩ := ob hm
      refine Op_call [55] 58 _ ph_go9 (by kernel_rfl) (c_l21_alike (F := N0) (O := N0) _ _ _ _ _ _ _ _ _ _ _ _ _ _ _ _ _ _ _ _ _ _ _ _ _ _ (Ro.n0 (k_13.rd 1 rfl)) (k_13.len 1 rfl) (k_13.lec 1 rfl) (Ro.n0 (k_13.rd 2 rfl)) (k_13.len 2 rfl) (k_13.lec 2 rfl) (Ro.n0 (h_t_Salt.cx k_13)) rfl hc_t_Salt (Ro.n0 (h_t_Sum.cx k_13)) rfl hc_t_Sum (Cx.refl _) _ h_r_4) ?_
      rintro e_ w_7 ⟨rfl, k_15⟩
      have k_16 := k_13.call k_15
      refine ⟨.b r_4, rfl, ?_⟩
      have k_17 := k_16.sel .z
      refine WLs 2 [55] (.n 60 (.b (!r_4)) (.ssss .a)) qe (by kernel_rfl) ?_
      refine WL_nil <| At_go <| W_cond (!r_4) (by kernel_rfl) (fun hc3 => ?_) (fun hc3 => ?_)
      · rw [if_pos hc3] at hm
        refine W_seq <| W_q [] (.n 4 (.b false) .z) qe (by kernel_rfl) ?_
        refine At_go <| W_ret (At_tr ?_)
        obtain rfl := Option.some.inj hm
        refine At_rt [.b false] qe (by kernel_rfl) ?_
        exact ⟨rfl, k_17⟩
      rw [if_neg (by rw [hc3]; decide)] at hm
      refine W_skip ?_
      exact At_c ⟨hm, rfl, k_17⟩ (by kernel_rfl)
  rw [if_neg (by rw [hc2]; decide)] at hm
  refine W_skip ?_
  have k_18 := k_7.sel .z
  exact At_c ⟨hm, rfl, k_18⟩ (by kernel_rfl)
 rintro L_ w_8 ⟨hm, rfl, k_19⟩
 simp only [m_l21_PassThere_j0] at hm
 refine W_seq <| W_reg <| WLs 1 [] (.n 62 (.s s_) .a) qe (by kernel_rfl) ?_
 refine WL_op ?_
 obtain ⟨r_5, h_r_5, hm⟩ := ob hm
 refine Op_call [] 63 _ ph_go7 (by kernel_rfl) (c_pass_Parse (F := N0) (O := N0) _ (Cx.refl _) _ h_r_5) ?_
 rintro e_ w_9 ⟨A2, _, c2, A3, _, c3, rfl, rfl, rfl, k_20⟩
 have k_21 := k_19.call k_20
 refine ⟨.tup [.agg [I r_5.1, I r_5.2.1, I r_5.2.2.1, I r_5.2.2.2.1, I r_5.2.2.2.2.1, sl A2 r_5.2.2.2.2.2.1.length c2, sl A3 r_5.2.2.2.2.2.2.1.length c3], I r_5.2.2.2.2.2.2.2.1, I r_5.2.2.2.2.2.2.2.2], rfl, ?_⟩
 refine WLs 4 [] (.n 64 (.agg [I r_5.1, I r_5.2.1, I r_5.2.2.1, I r_5.2.2.2.1, I r_5.2.2.2.2.1, sl A2 r_5.2.2.2.2.2.1.length c2, sl A3 r_5.2.2.2.2.2.2.1.length c3]) (.n 65 (I r_5.2.2.2.2.2.2.2.1) (.n 66 (I r_5.2.2.2.2.2.2.2.2) (.ss .a)))) qe (by kernel_rfl) ?_
 refine WL_op <| Op_alloc [] 11 [I 0, I 0, I 0, I 0, I 0, sl none 0 0, sl none 0 0] (by kernel_rfl) k_21 ?_
 intro g2 w_10 k_22
 refine WL_op <| Op_b [] 2 (.agg [I r_5.1, I r_5.2.1, I r_5.2.2.1, I r_5.2.2.2.1, I r_5.2.2.2.2.1, sl A2 r_5.2.2.2.2.2.1.length c2, sl A3 r_5.2.2.2.2.2.2.1.length c3]) [I r_5.1, I r_5.2.1, I r_5.2.2.1, I r_5.2.2.2.1, I r_5.2.2.2.2.1, sl A2 r_5.2.2.2.2.2.1.length c2, sl A3 r_5.2.2.2.2.2.2.1.length c3] (Pt.at g2 0) k_22 rfl .all (by kernel_rfl) (by kernel_rfl) ?_
 intro w_11 k_23
 refine WLs 2 [] (.n 13 (I r_5.2.2.2.2.2.2.2.2) (.k (.sss .a))) qe (by kernel_rfl) ?_
 refine WL_nil <| At_go <| W_seq <| W_seq <| W_q [] (.n 68 (.b (decide (r_5.2.2.2.2.2.2.2.2 ≠ 0))) (.s .a)) qe (by kernel_rfl) ?_
 refine At_go <| W_condp (r_5.2.2.2.2.2.2.2.2 ≠ 0) (by kernel_rfl) (fun hc4 => ?_) (fun hc4 => ?_)
 · rw [if_pos hc4] at hm
   refine W_seq <| W_q [] (.n 4 (.b true) .z) qe (by kernel_rfl) ?_
   refine At_go <| W_ret (At_tr ?_)
   obtain rfl := Option.some.inj hm
   refine At_rt [.b true] qe (by kernel_rfl) ?_
   have k_24 := k_23.sel .z
   exact ⟨rfl, k_24⟩
 rw [if_neg hc4] at hm
 refine W_skip <| At_go <| W_seq <| W_reg <| WLs 1 [] (.n 70 (.agg [I r_5.1, I r_5.2.1, I r_5.2.2.1, I r_5.2.2.2.1, I r_5.2.2.2.2.1, sl A2 r_5.2.2.2.2.2.1.length c2, sl A3 r_5.2.2.2.2.2.2.1.length c3]) (.ss .a)) (qT k_23 2 rfl 0 7 [I r_5.1, I r_5.2.1, I r_5.2.2.1, I r_5.2.2.2.1, I r_5.2.2.2.2.1, sl A2 r_5.2.2.2.2.2.1.length c2, sl A3 r_5.2.2.2.2.2.2.1.length c3] (by kernel_rfl) (by decide) <| qe) (by kernel_rfl) ?_
 refine WL_op ?_
 obtain ⟨r_6, h_r_6, hm⟩ := ob hm
 refine Op_call [] 71 _ ph_go5 (by kernel_rfl) (c_pass_Print (F := N0) (O := N0) _ _ _ _ _ _ _ _ _ _ _ _ _ (Ro.n0 (k_23.rd 0 rfl)) (k_23.len 0 rfl) (k_23.lec 0 rfl) (Ro.n0 (k_23.rd 1 rfl)) (k_23.len 1 rfl) (k_23.lec 1 rfl) (hT.at k_23) (Cx.refl _) _ h_r_6) ?_
 rintro e_ w_12 ⟨rfl, k_25⟩
 have k_26 := k_23.call k_25
 refine ⟨.tup [.s r_6.1, I r_6.2], rfl, ?_⟩
 have k_27 := k_26.sel .z
 refine WLs 5 [] (.n 14 (.s r_6.1) (.n 15 (I r_6.2) (.ss .a))) qe (by kernel_rfl) ?_
 refine WL_nil <| At_go <| W_seq <| W_q [] (.n 4 (.b ((decide (r_6.2 = 0)) && (decide (r_6.1 = s_)))) .z) qe (by kernel_rfl) ?_
 refine At_go <| W_ret ?_
 obtain rfl := Option.some.inj hm
 refine At_rt [.b ((decide (r_6.2 = 0)) && (decide (r_6.1 = s_)))] qe (by kernel_rfl) ?_
 exact ⟨rfl, k_27⟩
end Go.Sx
