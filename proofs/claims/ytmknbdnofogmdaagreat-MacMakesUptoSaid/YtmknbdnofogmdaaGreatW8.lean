import Derived.Test.YtmknbdnofogmdaaGreatW7
namespace Go.Sx
open Go.RowKit Go.Proofs
set_option linter.unusedVariables false
set_option linter.unusedSimpArgs false
set_option maxRecDepth 20000

-- quern/quernref02.Most
noncomputable def m_r02_Most (kind : Int) : Option Int :=
  if kind = 1 then (some (64 : Int)) else (if kind = 2 then (some (32 : Int)) else (some (0 : Int)))
theorem c_r02_Most {F O : Nat → Prop} {w : World} (kind : Int) (k : Cx F O w w []) (r : Int) (hm : m_r02_Most kind = some r) :
    Calls Tryz.prog 45 (vals [I kind]) w (fun e w' => e = .returned (SV.val (I r)) ∧ Cx F O w w' []) := by
 unfold m_r02_Most at hm
 refine calls [I kind] Tryz.func45 rfl (of_decide_eq_true (by kernel_rfl)) ?_
 refine W_seq <| W_q [] .a qe (by kernel_rfl) ?_
 refine At_go <| W_seq <| W_seq <| W_q [] (.n 3 (I kind) .z) qe (by kernel_rfl) ?_
 refine At_go <| W_block <| W_seq <| W_q [] (.n 4 (.b (decide (kind = 1))) .a) qe (by kernel_rfl) ?_
 refine At_go <| W_condp (kind = 1) (by kernel_rfl) (fun hc => ?_) (fun hc => ?_)
 · rw [if_pos hc] at hm
   refine W_seq <| W_q [] (.n 2 (I 64) .z) qe (by kernel_rfl) ?_
   refine At_go <| W_ret (At_ir (At_tr ?_))
   obtain rfl := Option.some.inj hm
   refine At_rt [I 64] qe (by kernel_rfl) ?_
   exact ⟨rfl, k⟩
 rw [if_neg hc] at hm
 refine W_seq <| W_q [] (.n 6 (.b (decide (kind = 2))) .z) qe (by kernel_rfl) ?_
 refine At_go <| W_condp (kind = 2) (by kernel_rfl) (fun hc1 => ?_) (fun hc1 => ?_)
 · rw [if_pos hc1] at hm
   refine W_seq <| W_q [] (.n 2 (I 32) .z) qe (by kernel_rfl) ?_
   refine At_go <| W_ret (At_ir (At_tr ?_))
   obtain rfl := Option.some.inj hm
   refine At_rt [I 32] qe (by kernel_rfl) ?_
   exact ⟨rfl, k⟩
 rw [if_neg hc1] at hm
 refine W_skip <| At_in <| At_go <| W_seq <| W_q [] (.n 2 (I 0) .z) qe (by kernel_rfl) ?_
 refine At_go <| W_ret ?_
 obtain rfl := Option.some.inj hm
 refine At_rt [I 0] qe (by kernel_rfl) ?_
 exact ⟨rfl, k⟩

-- quern/quernref02.Check
noncomputable def m_r02_Check (kind : Int) (p_Digest : Int) (p_Key : Int) (p_Fanout : Int) (p_Depth : Int) (p_Leaf : UInt32) (p_Offset : UInt64) (p_Xof : UInt32) (p_NodeDepth : Int) (p_Inner : Int) (p_Salt : List UInt8) (p_Personal : List UInt8) : Option Int :=
  (m_r02_Most kind).bind fun r_ => if r_ = 0 then (some (1 : Int)) else (if ((decide (p_Digest < 1)) || (decide (r_ < p_Digest))) = true then (some (20 : Int)) else (if ((decide (p_Key < 0)) || (decide (r_ < p_Key))) = true then (some (8 : Int)) else (if ((decide (p_Fanout < 0)) || (decide (255 < p_Fanout))) = true then (some (21 : Int)) else (if (((decide (p_Depth < 0)) || (decide (255 < p_Depth))) || ((decide (p_Depth = 0)) && (decide (p_Xof = 0)))) = true then (some (22 : Int)) else (if (((decide (p_Xof ≠ 0)) && (decide ((4294967295 : UInt64) < p_Offset))) || (((decide (p_Xof = 0)) && (decide (kind = 2))) && (decide ((281474976710655 : UInt64) < p_Offset)))) = true then (some (23 : Int)) else (if ((decide (kind = 2)) && (decide ((65535 : UInt32) < p_Xof))) = true then (some (24 : Int)) else (if ((decide (p_NodeDepth < 0)) || (decide (255 < p_NodeDepth))) = true then (some (25 : Int)) else (if ((decide (p_Inner < 0)) || (decide (r_ < p_Inner))) = true then (some (26 : Int)) else (if (w64 (Int.tdiv r_ 4)) < ((p_Salt.length : Nat) : Int) then (some (27 : Int)) else (if (w64 (Int.tdiv r_ 4)) < ((p_Personal.length : Nat) : Int) then (some (28 : Int)) else (some (0 : Int))))))))))))
theorem c_r02_Check {F O : Nat → Prop} {w : World} (kind : Int) (p_Digest : Int) (p_Key : Int) (p_Fanout : Int) (p_Depth : Int) (p_Leaf : UInt32) (p_Offset : UInt64) (p_Xof : UInt32) (p_NodeDepth : Int) (p_Inner : Int) (p_Salt : List UInt8) (p_Personal : List UInt8) (A_p_Salt : Option Addr) (n_p_Salt : Nat) (c_p_Salt : Nat) (A_p_Personal : Option Addr) (n_p_Personal : Nat) (c_p_Personal : Nat) (h_p_Salt : Ro F w A_p_Salt (e8.all p_Salt)) (hn_p_Salt : p_Salt.length = n_p_Salt) (hc_p_Salt : n_p_Salt ≤ c_p_Salt) (h_p_Personal : Ro F w A_p_Personal (e8.all p_Personal)) (hn_p_Personal : p_Personal.length = n_p_Personal) (hc_p_Personal : n_p_Personal ≤ c_p_Personal) (k : Cx F O w w []) (r : Int) (hm : m_r02_Check kind p_Digest p_Key p_Fanout p_Depth p_Leaf p_Offset p_Xof p_NodeDepth p_Inner p_Salt p_Personal = some r) :
    Calls Tryz.prog 42 (vals [I kind, .agg [I p_Digest, I p_Key, I p_Fanout, I p_Depth, .u32 p_Leaf, .u64 p_Offset, .u32 p_Xof, I p_NodeDepth, I p_Inner, sl A_p_Salt n_p_Salt c_p_Salt, sl A_p_Personal n_p_Personal c_p_Personal]]) w (fun e w' => e = .returned (SV.val (I r)) ∧ Cx F O w w' []) := by
 unfold m_r02_Check at hm
 subst hn_p_Salt
 subst hn_p_Personal
 refine calls [I kind, .agg [I p_Digest, I p_Key, I p_Fanout, I p_Depth, .u32 p_Leaf, .u64 p_Offset, .u32 p_Xof, I p_NodeDepth, I p_Inner, sl A_p_Salt p_Salt.length c_p_Salt, sl A_p_Personal p_Personal.length c_p_Personal]] Tryz.func42 rfl (of_decide_eq_true (by kernel_rfl)) ?_
 refine W_seq <| W_reg <| WL_op <| Op_box [] 3 (.agg [I p_Digest, I p_Key, I p_Fanout, I p_Depth, .u32 p_Leaf, .u64 p_Offset, .u32 p_Xof, I p_NodeDepth, I p_Inner, sl A_p_Salt p_Salt.length c_p_Salt, sl A_p_Personal p_Personal.length c_p_Personal]) [I p_Digest, I p_Key, I p_Fanout, I p_Depth, .u32 p_Leaf, .u64 p_Offset, .u32 p_Xof, I p_NodeDepth, I p_Inner, sl A_p_Salt p_Salt.length c_p_Salt, sl A_p_Personal p_Personal.length c_p_Personal] (by kernel_rfl) k ?_
 intro g w_ k_
 refine WLs 1 [] (.kk .z) qe (by kernel_rfl) ?_
 refine WL_nil <| At_go <| W_seq <| W_reg <| WLs 1 [] (.n 6 (I kind) .a) qe (by kernel_rfl) ?_
 refine WL_op ?_
 obtain ⟨r_, h_r_, hm⟩ := ob hm
 refine Op_call [] 7 _ yz_go45 (by kernel_rfl) (c_r02_Most (F := N0) (O := N0) _ (Cx.refl _) _ h_r_) ?_
 rintro e_ w_1 ⟨rfl, k_1⟩
 have k_2 := k_.call k_1
 refine ⟨I r_, rfl, ?_⟩
 refine WLs 1 [] (.n 5 (I r_) (.ss .a)) qe (by kernel_rfl) ?_
 refine WL_nil <| At_go <| W_seq <| W_block <| W_seq <| W_q [] (.n 8 (.b (decide (r_ = 0))) .a) qe (by kernel_rfl) ?_
 refine At_go <| W_condp (r_ = 0) (by kernel_rfl) (fun hc => ?_) (fun hc => ?_)
 · rw [if_pos hc] at hm
   refine W_seq <| W_q [] (.n 4 (I 1) .z) qe (by kernel_rfl) ?_
   refine At_go <| W_ret (At_ir (At_tr ?_))
   obtain rfl := Option.some.inj hm
   refine At_rt [I 1] qe (by kernel_rfl) ?_
   have k_3 := k_2.sel .z
   exact ⟨rfl, k_3⟩
 rw [if_neg hc] at hm
 refine W_seq <| W_q [] (.n 11 (.b ((decide (p_Digest < 1)) || (decide (r_ < p_Digest)))) (.s .a)) (qs g 0 <| qB k_2 0 rfl 0 (I p_Digest) (by kernel_rfl) <| qp ((decide (p_Digest < 1)) = false → (some ⟨g, 0, none⟩ : Option Addr).isSome = true) (fun hg0 => rfl) <| qo (I p_Digest) <| qc (fun w => (decide (p_Digest < 1)) = false → ∃ a, (some ⟨g, 0, none⟩ : Option Addr) = some a ∧ w.cell? a = some (SV.val (I p_Digest))) (fun hg0 => k_2.bld 0 rfl 0 (I p_Digest) (by kernel_rfl)) <| qe) (by kernel_rfl) ?_
 refine At_go <| W_cond ((decide (p_Digest < 1)) || (decide (r_ < p_Digest))) (by kernel_rfl) (fun hc1 => ?_) (fun hc1 => ?_)
 · rw [if_pos hc1] at hm
   refine W_seq <| W_q [] (.n 4 (I 20) .z) qe (by kernel_rfl) ?_
   refine At_go <| W_ret (At_ir (At_tr ?_))
   obtain rfl := Option.some.inj hm
   refine At_rt [I 20] qe (by kernel_rfl) ?_
   have k_4 := k_2.sel .z
   exact ⟨rfl, k_4⟩
 rw [if_neg (by rw [hc1]; decide)] at hm
 refine W_seq <| W_q [] (.n 21 (.b ((decide (p_Key < 0)) || (decide (r_ < p_Key)))) (.s .a)) (qs g 0 <| qB k_2 0 rfl 1 (I p_Key) (by kernel_rfl) <| qp ((decide (p_Key < 0)) = false → (some ⟨g, 0, none⟩ : Option Addr).isSome = true) (fun hg0 => rfl) <| qo (I p_Key) <| qc (fun w => (decide (p_Key < 0)) = false → ∃ a, (some ⟨g, 1, none⟩ : Option Addr) = some a ∧ w.cell? a = some (SV.val (I p_Key))) (fun hg0 => k_2.bld 0 rfl 1 (I p_Key) (by kernel_rfl)) <| qe) (by kernel_rfl) ?_
 refine At_go <| W_cond ((decide (p_Key < 0)) || (decide (r_ < p_Key))) (by kernel_rfl) (fun hc2 => ?_) (fun hc2 => ?_)
 · rw [if_pos hc2] at hm
   refine W_seq <| W_q [] (.n 4 (I 8) .z) qe (by kernel_rfl) ?_
   refine At_go <| W_ret (At_ir (At_tr ?_))
   obtain rfl := Option.some.inj hm
   refine At_rt [I 8] qe (by kernel_rfl) ?_
   have k_5 := k_2.sel .z
   exact ⟨rfl, k_5⟩
 rw [if_neg (by rw [hc2]; decide)] at hm
 refine W_seq <| W_q [] (.n 31 (.b ((decide (p_Fanout < 0)) || (decide (255 < p_Fanout)))) (.s .a)) (qs g 0 <| qB k_2 0 rfl 2 (I p_Fanout) (by kernel_rfl) <| qp ((decide (p_Fanout < 0)) = false → (some ⟨g, 0, none⟩ : Option Addr).isSome = true) (fun hg0 => rfl) <| qo (I p_Fanout) <| qc (fun w => (decide (p_Fanout < 0)) = false → ∃ a, (some ⟨g, 2, none⟩ : Option Addr) = some a ∧ w.cell? a = some (SV.val (I p_Fanout))) (fun hg0 => k_2.bld 0 rfl 2 (I p_Fanout) (by kernel_rfl)) <| qe) (by kernel_rfl) ?_
 refine At_go <| W_cond ((decide (p_Fanout < 0)) || (decide (255 < p_Fanout))) (by kernel_rfl) (fun hc3 => ?_) (fun hc3 => ?_)
 · rw [if_pos hc3] at hm
   refine W_seq <| W_q [] (.n 4 (I 21) .z) qe (by kernel_rfl) ?_
   refine At_go <| W_ret (At_ir (At_tr ?_))
   obtain rfl := Option.some.inj hm
   refine At_rt [I 21] qe (by kernel_rfl) ?_
   have k_6 := k_2.sel .z
   exact ⟨rfl, k_6⟩
 rw [if_neg (by rw [hc3]; decide)] at hm
 refine W_seq <| W_q [] (.n 40 (.b (((decide (p_Depth < 0)) || (decide (255 < p_Depth))) || ((decide (p_Depth = 0)) && (decide (p_Xof = 0))))) (.s .a)) (qs g 0 <| qB k_2 0 rfl 3 (I p_Depth) (by kernel_rfl) <| qp ((decide (p_Depth < 0)) = false → (some ⟨g, 0, none⟩ : Option Addr).isSome = true) (fun hg0 => rfl) <| qo (I p_Depth) <| qc (fun w => (decide (p_Depth < 0)) = false → ∃ a, (some ⟨g, 3, none⟩ : Option Addr) = some a ∧ w.cell? a = some (SV.val (I p_Depth))) (fun hg0 => k_2.bld 0 rfl 3 (I p_Depth) (by kernel_rfl)) <| qp (((decide (p_Depth < 0)) || (decide (255 < p_Depth))) = false → (some ⟨g, 0, none⟩ : Option Addr).isSome = true) (fun hg0 => rfl) <| qo (I p_Depth) <| qc (fun w => ((decide (p_Depth < 0)) || (decide (255 < p_Depth))) = false → ∃ a, (some ⟨g, 3, none⟩ : Option Addr) = some a ∧ w.cell? a = some (SV.val (I p_Depth))) (fun hg0 => k_2.bld 0 rfl 3 (I p_Depth) (by kernel_rfl)) <| qp (((decide (p_Depth < 0)) || (decide (255 < p_Depth))) = false → (decide (p_Depth = 0)) = true → (some ⟨g, 0, none⟩ : Option Addr).isSome = true) (fun hg1 => fun hg0 => rfl) <| qo (.u32 p_Xof) <| qc (fun w => ((decide (p_Depth < 0)) || (decide (255 < p_Depth))) = false → (decide (p_Depth = 0)) = true → ∃ a, (some ⟨g, 6, none⟩ : Option Addr) = some a ∧ w.cell? a = some (SV.val (.u32 p_Xof))) (fun hg1 => fun hg0 => k_2.bld 0 rfl 6 (.u32 p_Xof) (by kernel_rfl)) <| qe) (by kernel_rfl) ?_
 refine At_go <| W_cond (((decide (p_Depth < 0)) || (decide (255 < p_Depth))) || ((decide (p_Depth = 0)) && (decide (p_Xof = 0)))) (by kernel_rfl) (fun hc4 => ?_) (fun hc4 => ?_)
 · rw [if_pos hc4] at hm
   refine W_seq <| W_q [] (.n 4 (I 22) .z) qe (by kernel_rfl) ?_
   refine At_go <| W_ret (At_ir (At_tr ?_))
   obtain rfl := Option.some.inj hm
   refine At_rt [I 22] qe (by kernel_rfl) ?_
   have k_7 := k_2.sel .z
   exact ⟨rfl, k_7⟩
 rw [if_neg (by rw [hc4]; decide)] at hm
 refine W_seq <| W_q [] (.n 59 (.b (((decide (p_Xof ≠ 0)) && (decide ((4294967295 : UInt64) < p_Offset))) || (((decide (p_Xof = 0)) && (decide (kind = 2))) && (decide ((281474976710655 : UInt64) < p_Offset))))) (.s .a)) (qs g 0 <| qB k_2 0 rfl 6 (.u32 p_Xof) (by kernel_rfl) <| qp ((decide (p_Xof ≠ 0)) = true → (some ⟨g, 0, none⟩ : Option Addr).isSome = true) (fun hg0 => rfl) <| qo (.u64 p_Offset) <| qc (fun w => (decide (p_Xof ≠ 0)) = true → ∃ a, (some ⟨g, 5, none⟩ : Option Addr) = some a ∧ w.cell? a = some (SV.val (.u64 p_Offset))) (fun hg0 => k_2.bld 0 rfl 5 (.u64 p_Offset) (by kernel_rfl)) <| qp (((decide (p_Xof ≠ 0)) && (decide ((4294967295 : UInt64) < p_Offset))) = false → (some ⟨g, 0, none⟩ : Option Addr).isSome = true) (fun hg0 => rfl) <| qo (.u32 p_Xof) <| qc (fun w => ((decide (p_Xof ≠ 0)) && (decide ((4294967295 : UInt64) < p_Offset))) = false → ∃ a, (some ⟨g, 6, none⟩ : Option Addr) = some a ∧ w.cell? a = some (SV.val (.u32 p_Xof))) (fun hg0 => k_2.bld 0 rfl 6 (.u32 p_Xof) (by kernel_rfl)) <| qp (((decide (p_Xof ≠ 0)) && (decide ((4294967295 : UInt64) < p_Offset))) = false → ((decide (p_Xof = 0)) && (decide (kind = 2))) = true → (some ⟨g, 0, none⟩ : Option Addr).isSome = true) (fun hg1 => fun hg0 => rfl) <| qo (.u64 p_Offset) <| qc (fun w => ((decide (p_Xof ≠ 0)) && (decide ((4294967295 : UInt64) < p_Offset))) = false → ((decide (p_Xof = 0)) && (decide (kind = 2))) = true → ∃ a, (some ⟨g, 5, none⟩ : Option Addr) = some a ∧ w.cell? a = some (SV.val (.u64 p_Offset))) (fun hg1 => fun hg0 => k_2.bld 0 rfl 5 (.u64 p_Offset) (by kernel_rfl)) <| qe) (by kernel_rfl) ?_
 refine At_go <| W_cond (((decide (p_Xof ≠ 0)) && (decide ((4294967295 : UInt64) < p_Offset))) || (((decide (p_Xof = 0)) && (decide (kind = 2))) && (decide ((281474976710655 : UInt64) < p_Offset)))) (by kernel_rfl) (fun hc5 => ?_) (fun hc5 => ?_)
 · rw [if_pos hc5] at hm
   refine W_seq <| W_q [] (.n 4 (I 23) .z) qe (by kernel_rfl) ?_
   refine At_go <| W_ret (At_ir (At_tr ?_))
   obtain rfl := Option.some.inj hm
   refine At_rt [I 23] qe (by kernel_rfl) ?_
   have k_8 := k_2.sel .z
   exact ⟨rfl, k_8⟩
 rw [if_neg (by rw [hc5]; decide)] at hm
 refine W_seq <| W_q [] (.n 82 (.b ((decide (kind = 2)) && (decide ((65535 : UInt32) < p_Xof)))) (.s (.kk .z))) (qp ((decide (kind = 2)) = true → (some ⟨g, 0, none⟩ : Option Addr).isSome = true) (fun hg0 => rfl) <| qo (.u32 p_Xof) <| qc (fun w => (decide (kind = 2)) = true → ∃ a, (some ⟨g, 6, none⟩ : Option Addr) = some a ∧ w.cell? a = some (SV.val (.u32 p_Xof))) (fun hg0 => k_2.bld 0 rfl 6 (.u32 p_Xof) (by kernel_rfl)) <| qe) (by kernel_rfl) ?_
 refine At_go <| W_cond ((decide (kind = 2)) && (decide ((65535 : UInt32) < p_Xof))) (by kernel_rfl) (fun hc6 => ?_) (fun hc6 => ?_)
 · rw [if_pos hc6] at hm
   refine W_seq <| W_q [] (.n 4 (I 24) .z) qe (by kernel_rfl) ?_
   refine At_go <| W_ret (At_ir (At_tr ?_))
   obtain rfl := Option.some.inj hm
   refine At_rt [I 24] qe (by kernel_rfl) ?_
   have k_9 := k_2.sel .z
   exact ⟨rfl, k_9⟩
 rw [if_neg (by rw [hc6]; decide)] at hm
 refine W_seq <| W_q [] (.n 90 (.b ((decide (p_NodeDepth < 0)) || (decide (255 < p_NodeDepth)))) (.s .a)) (qs g 0 <| qB k_2 0 rfl 7 (I p_NodeDepth) (by kernel_rfl) <| qp ((decide (p_NodeDepth < 0)) = false → (some ⟨g, 0, none⟩ : Option Addr).isSome = true) (fun hg0 => rfl) <| qo (I p_NodeDepth) <| qc (fun w => (decide (p_NodeDepth < 0)) = false → ∃ a, (some ⟨g, 7, none⟩ : Option Addr) = some a ∧ w.cell? a = some (SV.val (I p_NodeDepth))) (fun hg0 => k_2.bld 0 rfl 7 (I p_NodeDepth) (by kernel_rfl)) <| qe) (by kernel_rfl) ?_
 refine At_go <| W_cond ((decide (p_NodeDepth < 0)) || (decide (255 < p_NodeDepth))) (by kernel_rfl) (fun hc7 => ?_) (fun hc7 => ?_)
 · rw [if_pos hc7] at hm
   refine W_seq <| W_q [] (.n 4 (I 25) .z) qe (by kernel_rfl) ?_
   refine At_go <| W_ret (At_ir (At_tr ?_))
   obtain rfl := Option.some.inj hm
   refine At_rt [I 25] qe (by kernel_rfl) ?_
   have k_10 := k_2.sel .z
   exact ⟨rfl, k_10⟩
 rw [if_neg (by rw [hc7]; decide)] at hm
 refine W_seq <| W_q [] (.n 99 (.b ((decide (p_Inner < 0)) || (decide (r_ < p_Inner)))) (.s .a)) (qs g 0 <| qB k_2 0 rfl 8 (I p_Inner) (by kernel_rfl) <| qp ((decide (p_Inner < 0)) = false → (some ⟨g, 0, none⟩ : Option Addr).isSome = true) (fun hg0 => rfl) <| qo (I p_Inner) <| qc (fun w => (decide (p_Inner < 0)) = false → ∃ a, (some ⟨g, 8, none⟩ : Option Addr) = some a ∧ w.cell? a = some (SV.val (I p_Inner))) (fun hg0 => k_2.bld 0 rfl 8 (I p_Inner) (by kernel_rfl)) <| qe) (by kernel_rfl) ?_
 refine At_go <| W_cond ((decide (p_Inner < 0)) || (decide (r_ < p_Inner))) (by kernel_rfl) (fun hc8 => ?_) (fun hc8 => ?_)
 · rw [if_pos hc8] at hm
   refine W_seq <| W_q [] (.n 4 (I 26) .z) qe (by kernel_rfl) ?_
   refine At_go <| W_ret (At_ir (At_tr ?_))
   obtain rfl := Option.some.inj hm
   refine At_rt [I 26] qe (by kernel_rfl) ?_
   have k_11 := k_2.sel .z
   exact ⟨rfl, k_11⟩
 rw [if_neg (by rw [hc8]; decide)] at hm
 refine W_seq <| W_q [] (.n 109 (.b (decide ((w64 (Int.tdiv r_ 4)) < ((p_Salt.length : Nat) : Int)))) (.s .a)) (qs g 0 <| qB k_2 0 rfl 9 (sl A_p_Salt p_Salt.length c_p_Salt) (by kernel_rfl) <| qp ((4 : Int) ≠ (0 : Int)) (by omega) <| qe) (by kernel_rfl) ?_
 refine At_go <| W_condp ((w64 (Int.tdiv r_ 4)) < ((p_Salt.length : Nat) : Int)) (by kernel_rfl) (fun hc9 => ?_) (fun hc9 => ?_)
 · rw [if_pos hc9] at hm
   refine W_seq <| W_q [] (.n 4 (I 27) .z) qe (by kernel_rfl) ?_
   refine At_go <| W_ret (At_ir (At_tr ?_))
   obtain rfl := Option.some.inj hm
   refine At_rt [I 27] qe (by kernel_rfl) ?_
   have k_12 := k_2.sel .z
   exact ⟨rfl, k_12⟩
 rw [if_neg hc9] at hm
 refine W_seq <| W_q [] (.n 116 (.b (decide ((w64 (Int.tdiv r_ 4)) < ((p_Personal.length : Nat) : Int)))) .z) (qs g 0 <| qB k_2 0 rfl 10 (sl A_p_Personal p_Personal.length c_p_Personal) (by kernel_rfl) <| qp ((4 : Int) ≠ (0 : Int)) (by omega) <| qe) (by kernel_rfl) ?_
 refine At_go <| W_condp ((w64 (Int.tdiv r_ 4)) < ((p_Personal.length : Nat) : Int)) (by kernel_rfl) (fun hc10 => ?_) (fun hc10 => ?_)
 · rw [if_pos hc10] at hm
   refine W_seq <| W_q [] (.n 4 (I 28) .z) qe (by kernel_rfl) ?_
   refine At_go <| W_ret (At_ir (At_tr ?_))
   obtain rfl := Option.some.inj hm
   refine At_rt [I 28] qe (by kernel_rfl) ?_
   have k_13 := k_2.sel .z
   exact ⟨rfl, k_13⟩
 rw [if_neg hc10] at hm
 refine W_skip <| At_in <| At_go <| W_seq <| W_q [] (.n 4 (I 0) .z) qe (by kernel_rfl) ?_
 refine At_go <| W_ret ?_
 obtain rfl := Option.some.inj hm
 refine At_rt [I 0] qe (by kernel_rfl) ?_
 have k_14 := k_2.sel .z
 exact ⟨rfl, k_14⟩

-- quern/quernref05.Block
noncomputable def m_r05_Block (kind : Int) : Option Int :=
  if kind = 1 then (some (128 : Int)) else (some (64 : Int))
theorem c_r05_Block {F O : Nat → Prop} {w : World} (kind : Int) (k : Cx F O w w []) (r : Int) (hm : m_r05_Block kind = some r) :
    Calls Tryz.prog 77 (vals [I kind]) w (fun e w' => e = .returned (SV.val (I r)) ∧ Cx F O w w' []) := by
 unfold m_r05_Block at hm
 refine calls [I kind] Tryz.func77 rfl (of_decide_eq_true (by kernel_rfl)) ?_
 refine W_seq <| W_q [] .a qe (by kernel_rfl) ?_
 refine At_go <| W_seq <| W_seq <| W_q [] (.n 4 (.b (decide (kind = 1))) .z) qe (by kernel_rfl) ?_
 refine At_go <| W_condp (kind = 1) (by kernel_rfl) (fun hc => ?_) (fun hc => ?_)
 · rw [if_pos hc] at hm
   refine W_seq <| W_q [] (.n 2 (I 128) .z) qe (by kernel_rfl) ?_
   refine At_go <| W_ret (At_tr ?_)
   obtain rfl := Option.some.inj hm
   refine At_rt [I 128] qe (by kernel_rfl) ?_
   exact ⟨rfl, k⟩
 rw [if_neg hc] at hm
 refine W_skip <| At_go <| W_seq <| W_q [] (.n 2 (I 64) .z) qe (by kernel_rfl) ?_
 refine At_go <| W_ret ?_
 obtain rfl := Option.some.inj hm
 refine At_rt [I 64] qe (by kernel_rfl) ?_
 exact ⟨rfl, k⟩

-- quern/quernref05.keyed
noncomputable def m_r05_keyed_j0 (i : Int) (b1 : List UInt8) : Option ((List UInt8 × Int) ⊕ (List UInt8)) :=
  some (.inl (b1, w64 (i + 1)))
noncomputable def m_r05_keyed_j1 (b : List UInt8) (i : Int) (c2 : UInt8) : Option ((List UInt8 × Int) ⊕ (List UInt8)) :=
  (app b ([c2] : List UInt8) 1).bind fun b2 => m_r05_keyed_j0 i b2
noncomputable def m_r05_keyed_l0 (kind : Int) (key : List UInt8) : (List UInt8 × Int) → Option ((List UInt8 × Int) ⊕ (List UInt8))
  | (b, i) => (m_r05_Block kind).bind fun r_ => if i < r_ then (if i < ((key.length : Nat) : Int) then ((geti key i).bind fun x_0 => m_r05_keyed_j1 b i x_0) else (m_r05_keyed_j1 b i (0 : UInt8))) else (Option.map Sum.inr (some b))
noncomputable def m_r05_keyed (kind : Int) (key : List UInt8) : Option (List UInt8) :=
  if ((key.length : Nat) : Int) = 0 then (some ([] : List UInt8)) else (whileO (m_r05_keyed_l0 kind key) (([] : List UInt8), (0 : Int)))
theorem c_r05_keyed {F O : Nat → Prop} {w : World} (kind : Int) (key : List UInt8) (A_key : Option Addr) (n_key : Nat) (c_key : Nat) (h_key : Ro F w A_key (e8.all key)) (hn_key : key.length = n_key) (hc_key : n_key ≤ c_key) (k : Cx F O w w []) (r : (List UInt8)) (hm : m_r05_keyed kind key = some r) :
    Calls Tryz.prog 71 (vals [I kind, sl A_key n_key c_key]) w (fun e w' => ∃ A n c, r.length = n ∧ e = .returned (SV.val (sl A n c)) ∧ Cx F O w w' [Ow e8 A n c r]) := by
 unfold m_r05_keyed at hm
 subst hn_key
 refine calls [I kind, sl A_key key.length c_key] Tryz.func71 rfl (of_decide_eq_true (by kernel_rfl)) ?_
 refine W_seq <| W_q [] .a qe (by kernel_rfl) ?_
 refine At_go <| W_seq <| W_q [] (.n 5 (sl none 0 0) .a) qe (by kernel_rfl) ?_
 refine At_go <| W_seq <| W_seq <| W_q [] (.n 10 (.b (decide (((key.length : Nat) : Int) = 0))) .a) qe (by kernel_rfl) ?_
 refine At_go <| W_condp (((key.length : Nat) : Int) = 0) (by kernel_rfl) (fun hc => ?_) (fun hc => ?_)
 · rw [if_pos hc] at hm
   refine W_seq <| W_q [] (.n 4 (sl none 0 0) .z) qe (by kernel_rfl) ?_
   refine At_go <| W_ret (At_tr ?_)
   have k_ := k.nil e8
   obtain rfl := Option.some.inj hm
   refine At_rt [sl none 0 0] qe (by kernel_rfl) ?_
   exact ⟨none, 0, 0, k_.len 0 rfl, rfl, k_⟩
 rw [if_neg hc] at hm
 refine W_skip <| At_go <| W_seq <| W_seq <| W_q [] (.n 6 (I 0) (.s .a)) qe (by kernel_rfl) ?_
 refine At_go <| W_block ?_
 have k_2 := k.nil e8
 refine W_lp (m_r05_keyed_l0 kind key) (fun s L wr => ∃ (b : List UInt8) (i : Int) (A0 : Option Addr) (n0 : Nat) (c0 : Nat), (b, i) = s ∧ L = [(0, I kind), (1, sl A_key key.length c_key), (5, sl A0 n0 c0), (6, I i)] ∧ b.length = n0 ∧ Cx F O w wr [Ow e8 A0 n0 c0 b]) (([] : List UInt8), (0 : Int)) r hm ⟨([] : List UInt8), (0 : Int), none, 0, 0, rfl, rfl, k_2.len 0 rfl, k_2⟩ (by kernel_rfl) ?_
 intro s0_ L_ w_ y0 hrel hstep hr0
 obtain ⟨b, i, A0, _, c0, rfl, rfl, rfl, k_1⟩ := hrel
 have hm := hstep; simp only [m_r05_keyed_l0] at hm
 clear hstep
 refine W_seq <| W_seq <| W_reg <| WLs 2 [] (.n 11 (I i) (.n 12 (I kind) .a)) qe (by kernel_rfl) ?_
 refine WL_op ?_
 obtain ⟨r_, h_r_, hm⟩ := ob hm
 refine Op_call [] 13 _ yz_go77 (by kernel_rfl) (c_r05_Block (F := N0) (O := N0) _ (Cx.refl _) _ h_r_) ?_
 rintro e_ w_1 ⟨rfl, k_3⟩
 have k_4 := k_1.call k_3
 refine ⟨I r_, rfl, ?_⟩
 refine WLs 1 [] (.n 14 (.b (decide (i < r_))) (.sss .a)) qe (by kernel_rfl) ?_
 refine WL_nil <| At_go <| W_condp (i < r_) (by kernel_rfl) (fun hc1 => ?_) (fun hc1 => ?_)
 · rw [if_pos hc1] at hm
   refine W_skip <| At_go <| W_cut (fun L wr => ∃ (b1 : List UInt8) (A1 : Option Addr) (n1 : Nat) (c1 : Nat), m_r05_keyed_j0 i b1 = some y0 ∧ L = [(0, I kind), (1, sl A_key key.length c_key), (5, sl A1 n1 c1), (6, I i)] ∧ b1.length = n1 ∧ Cx F O w wr [Ow e8 A1 n1 c1 b1]) ?_ ?_
   ·
    refine W_block <| W_seq <| W_q [] (.n 7 (.u8 0) (.s .a)) qe (by kernel_rfl) ?_
    refine At_go <| W_cut (fun L wr => ∃ (c2 : UInt8), m_r05_keyed_j1 b i c2 = some y0 ∧ L = [(0, I kind), (1, sl A_key key.length c_key), (5, sl A0 b.length c0), (6, I i), (7, .u8 c2)] ∧ Cx F O w wr [Ow e8 A0 b.length c0 b]) ?_ ?_
    ·
     refine W_seq <| W_q [] (.n 20 (.b (decide (i < ((key.length : Nat) : Int)))) .a) qe (by kernel_rfl) ?_
     refine At_go <| W_condp (i < ((key.length : Nat) : Int)) (by kernel_rfl) (fun hc2 => ?_) (fun hc2 => ?_)
     · rw [if_pos hc2] at hm
       obtain ⟨x_0, h_x_0, hm⟩ := ob hm
       refine W_q [] (.n 7 (.u8 x_0) (.ss .a)) (qW (h_key.cx k_4) h_x_0 rfl (.u8 x_0) rfl <| qe) (by kernel_rfl) ?_
       exact At_c ⟨x_0, hm, rfl, k_4⟩ (by kernel_rfl)
     rw [if_neg hc2] at hm
     refine W_skip ?_
     exact At_c ⟨(0 : UInt8), hm, rfl, k_4⟩ (by kernel_rfl)
    rintro L_ w_2 ⟨c2, hm, rfl, k_5⟩
    simp only [m_r05_keyed_j1] at hm
    refine W_reg <| WLs 2 [] (.n 25 (sl A0 b.length c0) (.n 26 (.u8 c2) (.kkkk .z))) qe (by kernel_rfl) ?_
    refine WL_op <| Op_mk yz_tf22 e8 [] 27 ([c2] : List UInt8) [(0, .u8 c2)] [.u8 c2] (by kernel_rfl) (by kernel_rfl) (by kernel_rfl) k_5 ?_
    intro A2 w_3 k_6
    refine WL_op ?_
    obtain ⟨b2, h_b2, hm⟩ := ob hm
    obtain ⟨hz, hl⟩ := app_some h_b2
    refine Op_append (E := e8) (v := sl A2 1 1) (ys := ([c2] : List UInt8)) yz_tf22 [] 28 0 (by kernel_rfl) k_6 rfl (Src.sl (k_6.rd 1 rfl) (k_6.len 1 rfl) (by rfl)) (k_6.len 1 rfl) (by have := k_6.len 0 rfl; have := (k_6.len 1 rfl); omega) ?_
    intro A3 c3 w_4 k_7
    rw [← hl] at k_7
    have k_8 := k_7.sel (.k .z)
    refine WLs 1 [] (.n 5 (sl A3 (b.length + 1) c3) (.ssss (.kk (.s .a)))) qe (by kernel_rfl) ?_
    refine WL_nil <| At_in ?_
    exact At_c ⟨b2, A3, b.length + 1, c3, hm, rfl, k_8.len 0 rfl, k_8⟩ (by kernel_rfl)
   rintro L_ w_5 ⟨b1, A1, _, c1, hm, rfl, rfl, k_9⟩
   simp only [m_r05_keyed_j0] at hm
   refine W_q [] (.n 6 (I (w64 (i + 1))) (.kkk .z)) qe (by kernel_rfl) ?_
   exact At_rd (b1, w64 (i + 1)) (Option.some.inj hm).symm ⟨b1, w64 (i + 1), A1, b1.length, c1, rfl, rfl, k_9.len 0 rfl, k_9⟩ (by kernel_rfl)
 rw [if_neg hc1] at hm
 refine W_exit (At_te (At_te (At_ie ?_)))
 have hm := exit_of hm hr0
 refine At_go <| W_seq <| W_q [] (.n 4 (sl A0 b.length c0) .z) qe (by kernel_rfl) ?_
 refine At_go <| W_ret ?_
 obtain rfl := Option.some.inj hm
 refine At_rt [sl A0 b.length c0] qe (by kernel_rfl) ?_
 exact ⟨A0, b.length, c0, k_4.len 0 rfl, rfl, k_4⟩

-- quern/quernref05.New
noncomputable def m_r05_New (kind : Int) (p_Digest : Int) (p_Key : Int) (p_Fanout : Int) (p_Depth : Int) (p_Leaf : UInt32) (p_Offset : UInt64) (p_Xof : UInt32) (p_NodeDepth : Int) (p_Inner : Int) (p_Salt : List UInt8) (p_Personal : List UInt8) (key : List UInt8) : Option (Int ⊕ (Int × Int × Int × Int × Int × UInt32 × UInt64 × UInt32 × Int × Int × Vec UInt64 16 × List UInt8)) :=
  (m_r02_Check kind p_Digest p_Key p_Fanout p_Depth p_Leaf p_Offset p_Xof p_NodeDepth p_Inner p_Salt p_Personal).bind fun r_ => if r_ ≠ 0 then (some (Sum.inl r_)) else (if ((decide (((key.length : Nat) : Int) ≠ 0)) && (decide (((key.length : Nat) : Int) ≠ p_Key))) = true then (some (Sum.inl (8 : Int))) else ((m_r05_keyed kind key).bind fun r_1 => some (Sum.inr (kind, p_Digest, p_Key, p_Fanout, p_Depth, p_Leaf, p_Offset, p_Xof, p_NodeDepth, p_Inner, (Vec.rep 16 (0 : UInt64)), r_1))))
theorem c_r05_New {F O : Nat → Prop} {w : World} (kind : Int) (p_Digest : Int) (p_Key : Int) (p_Fanout : Int) (p_Depth : Int) (p_Leaf : UInt32) (p_Offset : UInt64) (p_Xof : UInt32) (p_NodeDepth : Int) (p_Inner : Int) (p_Salt : List UInt8) (p_Personal : List UInt8) (key : List UInt8) (A_p_Salt : Option Addr) (n_p_Salt : Nat) (c_p_Salt : Nat) (A_p_Personal : Option Addr) (n_p_Personal : Nat) (c_p_Personal : Nat) (A_key : Option Addr) (n_key : Nat) (c_key : Nat) (h_p_Salt : Ro F w A_p_Salt (e8.all p_Salt)) (hn_p_Salt : p_Salt.length = n_p_Salt) (hc_p_Salt : n_p_Salt ≤ c_p_Salt) (h_p_Personal : Ro F w A_p_Personal (e8.all p_Personal)) (hn_p_Personal : p_Personal.length = n_p_Personal) (hc_p_Personal : n_p_Personal ≤ c_p_Personal) (h_key : Ro F w A_key (e8.all key)) (hn_key : key.length = n_key) (hc_key : n_key ≤ c_key) (k : Cx F O w w []) (r : Int ⊕ (Int × Int × Int × Int × Int × UInt32 × UInt64 × UInt32 × Int × Int × Vec UInt64 16 × List UInt8)) (hm : m_r05_New kind p_Digest p_Key p_Fanout p_Depth p_Leaf p_Offset p_Xof p_NodeDepth p_Inner p_Salt p_Personal key = some r) :
    Calls Tryz.prog 59 (vals [I kind, .agg [I p_Digest, I p_Key, I p_Fanout, I p_Depth, .u32 p_Leaf, .u64 p_Offset, .u32 p_Xof, I p_NodeDepth, I p_Inner, sl A_p_Salt n_p_Salt c_p_Salt, sl A_p_Personal n_p_Personal c_p_Personal], sl A_key n_key c_key]) w (fun e w' => match r with | .inl r0 => e = .returned (SV.val (.tup [.v (.pointer none), I r0])) ∧ Cx F O w w' [] | .inr r1 => ∃ g A n c, r1.2.2.2.2.2.2.2.2.2.2.2.length = n ∧ e = .returned (SV.val (.tup [pt g 0, I 0])) ∧ Cx F O w w' [Bx 110 g [I r1.1, I r1.2.1, I r1.2.2.1, I r1.2.2.2.1, I r1.2.2.2.2.1, .u32 r1.2.2.2.2.2.1, .u64 r1.2.2.2.2.2.2.1, .u32 r1.2.2.2.2.2.2.2.1, I r1.2.2.2.2.2.2.2.2.1, I r1.2.2.2.2.2.2.2.2.2.1, sl A_p_Salt n_p_Salt c_p_Salt, sl A_p_Personal n_p_Personal c_p_Personal, sl A_key n_key c_key, .b false, .ar e64 r1.2.2.2.2.2.2.2.2.2.2.1, .b false, .u64 0, .u64 0, sl A n c, .u64 0], Ow e8 A n c r1.2.2.2.2.2.2.2.2.2.2.2]) := by
 unfold m_r05_New at hm
 subst hn_p_Salt
 subst hn_p_Personal
 subst hn_key
 refine calls [I kind, .agg [I p_Digest, I p_Key, I p_Fanout, I p_Depth, .u32 p_Leaf, .u64 p_Offset, .u32 p_Xof, I p_NodeDepth, I p_Inner, sl A_p_Salt p_Salt.length c_p_Salt, sl A_p_Personal p_Personal.length c_p_Personal], sl A_key key.length c_key] Tryz.func59 rfl (of_decide_eq_true (by kernel_rfl)) ?_
 refine W_seq <| W_reg <| WL_op <| Op_box [] 4 (.agg [I p_Digest, I p_Key, I p_Fanout, I p_Depth, .u32 p_Leaf, .u64 p_Offset, .u32 p_Xof, I p_NodeDepth, I p_Inner, sl A_p_Salt p_Salt.length c_p_Salt, sl A_p_Personal p_Personal.length c_p_Personal]) [I p_Digest, I p_Key, I p_Fanout, I p_Depth, .u32 p_Leaf, .u64 p_Offset, .u32 p_Xof, I p_NodeDepth, I p_Inner, sl A_p_Salt p_Salt.length c_p_Salt, sl A_p_Personal p_Personal.length c_p_Personal] (by kernel_rfl) k ?_
 intro g0 w_ k_
 refine WLs 2 [] (.kk (.s .a)) qe (by kernel_rfl) ?_
 refine WL_nil <| At_go <| W_seq <| W_reg <| WLs 2 [] (.n 10 (I kind) (.n 11 (.agg [I p_Digest, I p_Key, I p_Fanout, I p_Depth, .u32 p_Leaf, .u64 p_Offset, .u32 p_Xof, I p_NodeDepth, I p_Inner, sl A_p_Salt p_Salt.length c_p_Salt, sl A_p_Personal p_Personal.length c_p_Personal]) .a)) (qT k_ 0 rfl 0 11 [I p_Digest, I p_Key, I p_Fanout, I p_Depth, .u32 p_Leaf, .u64 p_Offset, .u32 p_Xof, I p_NodeDepth, I p_Inner, sl A_p_Salt p_Salt.length c_p_Salt, sl A_p_Personal p_Personal.length c_p_Personal] (by kernel_rfl) (by decide) <| qe) (by kernel_rfl) ?_
 refine WL_op ?_
 obtain ⟨r_, h_r_, hm⟩ := ob hm
 refine Op_call [] 12 _ yz_go42 (by kernel_rfl) (c_r02_Check (F := N0) (O := N0) _ _ _ _ _ _ _ _ _ _ _ _ _ _ _ _ _ _ (Ro.n0 (h_p_Salt.cx k_)) rfl hc_p_Salt (Ro.n0 (h_p_Personal.cx k_)) rfl hc_p_Personal (Cx.refl _) _ h_r_) ?_
 rintro e_ w_1 ⟨rfl, k_1⟩
 have k_2 := k_.call k_1
 refine ⟨I r_, rfl, ?_⟩
 refine WLs 1 [] (.n 8 (I r_) (.sss .a)) qe (by kernel_rfl) ?_
 refine WL_nil <| At_go <| W_seq <| W_seq <| W_q [] (.n 14 (.b (decide (r_ ≠ 0))) .a) qe (by kernel_rfl) ?_
 refine At_go <| W_condp (r_ ≠ 0) (by kernel_rfl) (fun hc => ?_) (fun hc => ?_)
 · rw [if_pos hc] at hm
   refine W_seq <| W_q [] (.n 6 (.v (.pointer none)) (.n 7 (I r_) .z)) qe (by kernel_rfl) ?_
   refine At_go <| W_ret (At_tr ?_)
   obtain rfl := Option.some.inj hm
   refine At_rt [.v (.pointer none), I r_] qe (by kernel_rfl) ?_
   have k_3 := k_2.sel .z
   exact ⟨rfl, k_3⟩
 rw [if_neg hc] at hm
 refine W_skip <| At_go <| W_seq <| W_seq <| W_q [] (.n 25 (.b ((decide (((key.length : Nat) : Int) ≠ 0)) && (decide (((key.length : Nat) : Int) ≠ p_Key)))) (.ss .a)) (qp ((decide (((key.length : Nat) : Int) ≠ 0)) = true → (some ⟨g0, 0, none⟩ : Option Addr).isSome = true) (fun hg0 => rfl) <| qo (I p_Key) <| qc (fun w => (decide (((key.length : Nat) : Int) ≠ 0)) = true → ∃ a, (some ⟨g0, 1, none⟩ : Option Addr) = some a ∧ w.cell? a = some (SV.val (I p_Key))) (fun hg0 => k_2.bld 0 rfl 1 (I p_Key) (by kernel_rfl)) <| qe) (by kernel_rfl) ?_
 refine At_go <| W_cond ((decide (((key.length : Nat) : Int) ≠ 0)) && (decide (((key.length : Nat) : Int) ≠ p_Key))) (by kernel_rfl) (fun hc1 => ?_) (fun hc1 => ?_)
 · rw [if_pos hc1] at hm
   refine W_seq <| W_q [] (.n 6 (.v (.pointer none)) (.n 7 (I 8) .z)) qe (by kernel_rfl) ?_
   refine At_go <| W_ret (At_tr ?_)
   obtain rfl := Option.some.inj hm
   refine At_rt [.v (.pointer none), I 8] qe (by kernel_rfl) ?_
   have k_4 := k_2.sel .z
   exact ⟨rfl, k_4⟩
 rw [if_neg (by rw [hc1]; decide)] at hm
 refine W_skip <| At_go <| W_seq <| W_reg <| WLs 4 [] (.n 29 (.agg [I kind, I p_Digest, I p_Key, I p_Fanout, I p_Depth, .u32 p_Leaf, .u64 p_Offset, .u32 p_Xof, I p_NodeDepth, I p_Inner, sl A_p_Salt p_Salt.length c_p_Salt, sl A_p_Personal p_Personal.length c_p_Personal, sl A_key key.length c_key, .b false, .ar e64 (Vec.rep 16 (0 : UInt64)), .b false, .u64 0, .u64 0, sl none 0 0, .u64 0]) (.ss .a)) (qT k_2 0 rfl 0 11 [I p_Digest, I p_Key, I p_Fanout, I p_Depth, .u32 p_Leaf, .u64 p_Offset, .u32 p_Xof, I p_NodeDepth, I p_Inner, sl A_p_Salt p_Salt.length c_p_Salt, sl A_p_Personal p_Personal.length c_p_Personal] (by kernel_rfl) (by decide) <| qe) (by kernel_rfl) ?_
 refine WL_op <| Op_box [] 30 (.agg [I kind, I p_Digest, I p_Key, I p_Fanout, I p_Depth, .u32 p_Leaf, .u64 p_Offset, .u32 p_Xof, I p_NodeDepth, I p_Inner, sl A_p_Salt p_Salt.length c_p_Salt, sl A_p_Personal p_Personal.length c_p_Personal, sl A_key key.length c_key, .b false, .ar e64 (Vec.rep 16 (0 : UInt64)), .b false, .u64 0, .u64 0, sl none 0 0, .u64 0]) [I kind, I p_Digest, I p_Key, I p_Fanout, I p_Depth, .u32 p_Leaf, .u64 p_Offset, .u32 p_Xof, I p_NodeDepth, I p_Inner, sl A_p_Salt p_Salt.length c_p_Salt, sl A_p_Personal p_Personal.length c_p_Personal, sl A_key key.length c_key, .b false, .ar e64 (Vec.rep 16 (0 : UInt64)), .b false, .u64 0, .u64 0, sl none 0 0, .u64 0] (by kernel_rfl) k_2 ?_
 intro g1 w_2 k_5
 refine WLs 1 [] (.n 9 (pt g1 0) (.ss .a)) qe (by kernel_rfl) ?_
 refine WL_nil <| At_go <| W_seq <| W_reg <| WLs 3 [] (.n 31 (pt g1 0) (.n 32 (I kind) (.n 33 (sl A_key key.length c_key) (.k .z)))) qe (by kernel_rfl) ?_
 refine WL_op ?_
 obtain ⟨r_1, h_r_1, hm⟩ := ob hm
 refine Op_call [] 34 _ yz_go71 (by kernel_rfl) (c_r05_keyed (F := N0) (O := N0) _ _ _ _ _ (Ro.n0 (h_key.cx k_5)) rfl hc_key (Cx.refl _) _ h_r_1) ?_
 rintro e_ w_3 ⟨A0, _, c0, rfl, rfl, k_6⟩
 have k_7 := k_5.call k_6
 refine ⟨sl A0 r_1.length c0, rfl, ?_⟩
 have k_8 := k_7.sel (.s (.kk .e))
 refine WLs 2 [] (.n 36 (pt g1 33) (.k (.sss .a))) (qs g1 0 <| qs g1 0 <| qe) (by kernel_rfl) ?_
 refine WL_op ?_
 have k_9 := k_8.sel (.kk .e)
 refine Op_b [] 0 (sl A0 r_1.length c0) [sl A0 r_1.length c0] (Pt.at g1 33) k_9 rfl (.kkkk (.kkkk (.kkkk (.kkkk (.kk .h))))) (by kernel_rfl) (by kernel_rfl) ?_
 intro w_4 k_10
 refine WL_nil <| At_go <| W_seq <| W_q [] (.n 6 (pt g1 0) (.n 7 (I 0) .z)) qe (by kernel_rfl) ?_
 refine At_go <| W_ret ?_
 obtain rfl := Option.some.inj hm
 refine At_rt [pt g1 0, I 0] qe (by kernel_rfl) ?_
 exact ⟨g1, A0, r_1.length, c0, k_10.len 1 rfl, rfl, k_10⟩

-- quern/quernref05.Full
noncomputable def m_r05_Full (kind : Int) : Option Int :=
  if kind = 1 then (some (64 : Int)) else (some (32 : Int))
theorem c_r05_Full {F O : Nat → Prop} {w : World} (kind : Int) (k : Cx F O w w []) (r : Int) (hm : m_r05_Full kind = some r) :
    Calls Tryz.prog 60 (vals [I kind]) w (fun e w' => e = .returned (SV.val (I r)) ∧ Cx F O w w' []) := by
 unfold m_r05_Full at hm
 refine calls [I kind] Tryz.func60 rfl (of_decide_eq_true (by kernel_rfl)) ?_
 refine W_seq <| W_q [] .a qe (by kernel_rfl) ?_
 refine At_go <| W_seq <| W_seq <| W_q [] (.n 4 (.b (decide (kind = 1))) .z) qe (by kernel_rfl) ?_
 refine At_go <| W_condp (kind = 1) (by kernel_rfl) (fun hc => ?_) (fun hc => ?_)
 · rw [if_pos hc] at hm
   refine W_seq <| W_q [] (.n 2 (I 64) .z) qe (by kernel_rfl) ?_
   refine At_go <| W_ret (At_tr ?_)
   obtain rfl := Option.some.inj hm
   refine At_rt [I 64] qe (by kernel_rfl) ?_
   exact ⟨rfl, k⟩
 rw [if_neg hc] at hm
 refine W_skip <| At_go <| W_seq <| W_q [] (.n 2 (I 32) .z) qe (by kernel_rfl) ?_
 refine At_go <| W_ret ?_
 obtain rfl := Option.some.inj hm
 refine At_rt [I 32] qe (by kernel_rfl) ?_
 exact ⟨rfl, k⟩

-- (*quern/quernref05.Node).Write
noncomputable def m_r05_Node_Write_l0 (n_Kind : Int) (n_P_Digest : Int) (n_P_Key : Int) (n_P_Fanout : Int) (n_P_Depth : Int) (n_P_Leaf : UInt32) (n_P_Offset : UInt64) (n_P_Xof : UInt32) (n_P_NodeDepth : Int) (n_P_Inner : Int) (n_Last : Bool) (n_From : Vec UInt64 16) (n_Old : Bool) (n_Lo : UInt64) (n_Hi : UInt64) (n_Count : UInt64) (b : List UInt8) : (List UInt8 × Int) → Option ((List UInt8 × Int) ⊕ (Int × Int × Int × Int × Int × UInt32 × UInt64 × UInt32 × Int × Int × Bool × Vec UInt64 16 × Bool × UInt64 × UInt64 × List UInt8 × UInt64))
  | (n0, i) => if i < ((b.length : Nat) : Int) then ((geti b i).bind fun x_0 => (app n0 ([x_0] : List UInt8) 1).bind fun b1 => some (.inl (b1, w64 (i + 1)))) else (Option.map Sum.inr (some (n_Kind, n_P_Digest, n_P_Key, n_P_Fanout, n_P_Depth, n_P_Leaf, n_P_Offset, n_P_Xof, n_P_NodeDepth, n_P_Inner, n_Last, n_From, n_Old, n_Lo, n_Hi, n0, n_Count + (UInt64.ofInt ((b.length : Nat) : Int)))))
noncomputable def m_r05_Node_Write (n_Kind : Int) (n_P_Digest : Int) (n_P_Key : Int) (n_P_Fanout : Int) (n_P_Depth : Int) (n_P_Leaf : UInt32) (n_P_Offset : UInt64) (n_P_Xof : UInt32) (n_P_NodeDepth : Int) (n_P_Inner : Int) (n_P_Salt : List UInt8) (n_P_Personal : List UInt8) (n_Key : List UInt8) (n_Last : Bool) (n_From : Vec UInt64 16) (n_Old : Bool) (n_Lo : UInt64) (n_Hi : UInt64) (n_Msg : List UInt8) (n_Count : UInt64) (b : List UInt8) : Option (Int × Int × Int × Int × Int × UInt32 × UInt64 × UInt32 × Int × Int × Bool × Vec UInt64 16 × Bool × UInt64 × UInt64 × List UInt8 × UInt64) :=
  whileO (m_r05_Node_Write_l0 n_Kind n_P_Digest n_P_Key n_P_Fanout n_P_Depth n_P_Leaf n_P_Offset n_P_Xof n_P_NodeDepth n_P_Inner n_Last n_From n_Old n_Lo n_Hi n_Count b) (n_Msg, (0 : Int))
theorem c_r05_Node_Write {F O : Nat → Prop} {w : World} (n_Kind : Int) (n_P_Digest : Int) (n_P_Key : Int) (n_P_Fanout : Int) (n_P_Depth : Int) (n_P_Leaf : UInt32) (n_P_Offset : UInt64) (n_P_Xof : UInt32) (n_P_NodeDepth : Int) (n_P_Inner : Int) (n_P_Salt : List UInt8) (n_P_Personal : List UInt8) (n_Key : List UInt8) (n_Last : Bool) (n_From : Vec UInt64 16) (n_Old : Bool) (n_Lo : UInt64) (n_Hi : UInt64) (n_Msg : List UInt8) (n_Count : UInt64) (b : List UInt8) (g_n : Nat) (A_n_P_Salt : Option Addr) (n_n_P_Salt : Nat) (c_n_P_Salt : Nat) (A_n_P_Personal : Option Addr) (n_n_P_Personal : Nat) (c_n_P_Personal : Nat) (A_n_Key : Option Addr) (n_n_Key : Nat) (c_n_Key : Nat) (A_n_Msg : Option Addr) (n_n_Msg : Nat) (c_n_Msg : Nat) (A_b : Option Addr) (n_b : Nat) (c_b : Nat) (h_n_P_Salt : Ro F w A_n_P_Salt (e8.all n_P_Salt)) (hn_n_P_Salt : n_P_Salt.length = n_n_P_Salt) (hc_n_P_Salt : n_n_P_Salt ≤ c_n_P_Salt) (h_n_P_Personal : Ro F w A_n_P_Personal (e8.all n_P_Personal)) (hn_n_P_Personal : n_P_Personal.length = n_n_P_Personal) (hc_n_P_Personal : n_n_P_Personal ≤ c_n_P_Personal) (h_n_Key : Ro F w A_n_Key (e8.all n_Key)) (hn_n_Key : n_Key.length = n_n_Key) (hc_n_Key : n_n_Key ≤ c_n_Key) (h_b : Ro F w A_b (e8.all b)) (hn_b : b.length = n_b) (hc_b : n_b ≤ c_b) (k : Cx F O w w [Bx 110 g_n [I n_Kind, I n_P_Digest, I n_P_Key, I n_P_Fanout, I n_P_Depth, .u32 n_P_Leaf, .u64 n_P_Offset, .u32 n_P_Xof, I n_P_NodeDepth, I n_P_Inner, sl A_n_P_Salt n_n_P_Salt c_n_P_Salt, sl A_n_P_Personal n_n_P_Personal c_n_P_Personal, sl A_n_Key n_n_Key c_n_Key, .b n_Last, .ar e64 n_From, .b n_Old, .u64 n_Lo, .u64 n_Hi, sl A_n_Msg n_n_Msg c_n_Msg, .u64 n_Count], Ow e8 A_n_Msg n_n_Msg c_n_Msg n_Msg]) (r : (Int × Int × Int × Int × Int × UInt32 × UInt64 × UInt32 × Int × Int × Bool × Vec UInt64 16 × Bool × UInt64 × UInt64 × List UInt8 × UInt64)) (hm : m_r05_Node_Write n_Kind n_P_Digest n_P_Key n_P_Fanout n_P_Depth n_P_Leaf n_P_Offset n_P_Xof n_P_NodeDepth n_P_Inner n_P_Salt n_P_Personal n_Key n_Last n_From n_Old n_Lo n_Hi n_Msg n_Count b = some r) :
    Calls Tryz.prog 61 (vals [pt g_n 0, sl A_b n_b c_b]) w (fun e w' => ∃ A n c, r.2.2.2.2.2.2.2.2.2.2.2.2.2.2.2.1.length = n ∧ e = .returned (SV.val (.tup [])) ∧ Cx F O w w' [Bx 110 g_n [I r.1, I r.2.1, I r.2.2.1, I r.2.2.2.1, I r.2.2.2.2.1, .u32 r.2.2.2.2.2.1, .u64 r.2.2.2.2.2.2.1, .u32 r.2.2.2.2.2.2.2.1, I r.2.2.2.2.2.2.2.2.1, I r.2.2.2.2.2.2.2.2.2.1, sl A_n_P_Salt n_n_P_Salt c_n_P_Salt, sl A_n_P_Personal n_n_P_Personal c_n_P_Personal, sl A_n_Key n_n_Key c_n_Key, .b r.2.2.2.2.2.2.2.2.2.2.1, .ar e64 r.2.2.2.2.2.2.2.2.2.2.2.1, .b r.2.2.2.2.2.2.2.2.2.2.2.2.1, .u64 r.2.2.2.2.2.2.2.2.2.2.2.2.2.1, .u64 r.2.2.2.2.2.2.2.2.2.2.2.2.2.2.1, sl A n c, .u64 r.2.2.2.2.2.2.2.2.2.2.2.2.2.2.2.2], Ow e8 A n c r.2.2.2.2.2.2.2.2.2.2.2.2.2.2.2.1]) := by
 unfold m_r05_Node_Write at hm
 subst hn_n_P_Salt
 subst hn_n_P_Personal
 subst hn_n_Key
 obtain rfl := k.len 1 rfl
 subst hn_b
 refine calls [pt g_n 0, sl A_b b.length c_b] Tryz.func61 rfl (of_decide_eq_true (by kernel_rfl)) ?_
 refine W_seq <| W_seq <| W_q [] (.n 4 (I 0) .a) qe (by kernel_rfl) ?_
 refine At_go <| W_block <| W_lp (m_r05_Node_Write_l0 n_Kind n_P_Digest n_P_Key n_P_Fanout n_P_Depth n_P_Leaf n_P_Offset n_P_Xof n_P_NodeDepth n_P_Inner n_Last n_From n_Old n_Lo n_Hi n_Count b) (fun s L wr => ∃ (n0 : List UInt8) (i : Int) (A0 : Option Addr) (n1 : Nat) (c0 : Nat), (n0, i) = s ∧ L = [(0, pt g_n 0), (1, sl A_b b.length c_b), (4, I i)] ∧ n0.length = n1 ∧ Cx F O w wr [Bx 110 g_n [I n_Kind, I n_P_Digest, I n_P_Key, I n_P_Fanout, I n_P_Depth, .u32 n_P_Leaf, .u64 n_P_Offset, .u32 n_P_Xof, I n_P_NodeDepth, I n_P_Inner, sl A_n_P_Salt n_P_Salt.length c_n_P_Salt, sl A_n_P_Personal n_P_Personal.length c_n_P_Personal, sl A_n_Key n_Key.length c_n_Key, .b n_Last, .ar e64 n_From, .b n_Old, .u64 n_Lo, .u64 n_Hi, sl A0 n1 c0, .u64 n_Count], Ow e8 A0 n1 c0 n0]) (n_Msg, (0 : Int)) r hm ⟨n_Msg, (0 : Int), A_n_Msg, n_Msg.length, c_n_Msg, rfl, rfl, k.len 1 rfl, k⟩ (by kernel_rfl) ?_
 intro s0_ L_ w_ y0 hrel hstep hr0
 obtain ⟨n0, i, A0, _, c0, rfl, rfl, rfl, k_⟩ := hrel
 have hm := hstep; simp only [m_r05_Node_Write_l0] at hm
 clear hstep
 refine W_seq <| W_seq <| W_q [] (.n 8 (.b (decide (i < ((b.length : Nat) : Int)))) .a) qe (by kernel_rfl) ?_
 refine At_go <| W_condp (i < ((b.length : Nat) : Int)) (by kernel_rfl) (fun hc => ?_) (fun hc => ?_)
 · rw [if_pos hc] at hm
   refine W_skip <| At_go <| W_seq <| W_block ?_
   have k_1 := k_.drew 1
   refine W_m yz_mixed (.q 0 2 (.q 1 2 (.q 2 2 (.q 3 2 (.q 4 1 (.q 5 2 (.q 6 2 (.q 7 2 (.q 8 1 (.op 9 (.op 10 (.q 11 3 (.q 12 2 (.op 13 .nil)))))))))))))) [9, 10, 13] k_1 (.c (.kk .e) (.c (.k .z) (.c (.z) .l))) (by kernel_rfl) (fun _ => ?_)
   refine MXq 4 2 [] (.n 11 (pt g_n 0) (.n 14 (pt g_n 33) (.s .a))) (fun x hx => qs g_n 0 <| qs g_n 0 <| qe) (by kernel_rfl) (fun _ => ?_)
   refine MXq 1 1 [] (.n 15 (sl A0 n0.length c0) (.k (.s .a))) (fun x hx => qB hx 0 rfl 33 (sl A0 n0.length c0) (by kernel_rfl) <| qe) (by kernel_rfl) (fun _ => ?_)
   obtain ⟨x_0, h_x_0, hm⟩ := ob hm
   refine MXq 3 2 [] (.n 18 (.v (.pointer (ixA A_b i 1))) .a) (fun x hx => qJ (h_b.cx hx) h_x_0 rfl <| qe) (by kernel_rfl) (fun _ => ?_)
   refine MXq 1 1 [] (.n 19 (.u8 x_0) (.s .a)) (fun x hx => qC (.u8 x_0) (Rd.el (k := 0) (h_b.cx hx) h_x_0 (Pt.ix1 A_b i 1) rfl) <| qe) (by kernel_rfl) (fun _ => ?_)
   refine MX_op (by kernel_rfl) rfl <| Op_mk yz_tf22 e8 [] 20 ([x_0] : List UInt8) [(0, .u8 x_0)] [.u8 x_0] (by kernel_rfl) (by kernel_rfl) (by kernel_rfl) k_1 ?_
   intro A1 w_1 k_2
   refine ⟨(k_2.sel (.kk .z)), fun _ => ?_⟩
   refine MX_op (by kernel_rfl) rfl ?_
   obtain ⟨b1, h_b1, hm⟩ := ob hm
   obtain ⟨hz, hl⟩ := app_some h_b1
   refine Op_append (E := e8) (v := sl A1 1 1) (ys := ([x_0] : List UInt8)) yz_tf22 [] 21 1 (by kernel_rfl) k_2 rfl (Src.sl (k_2.rd 2 rfl) (k_2.len 2 rfl) (by rfl)) (k_2.len 2 rfl) (by have := k_2.len 1 rfl; have := (k_2.len 2 rfl); omega) ?_
   intro A2 c1 w_2 k_3
   rw [← hl] at k_3
   have k_4 := k_3.sel (.kk .z)
   refine ⟨(k_4.sel (.k .z)), fun _ => ?_⟩
   refine MXq 1 3 [] (.n 22 (pt g_n 0) (.k (.ssss .a))) (fun x hx => qs g_n 0 <| qe) (by kernel_rfl) (fun _ => ?_)
   refine MXq 1 2 [] (.n 23 (pt g_n 33) (.s .a)) (fun x hx => qs g_n 0 <| qe) (by kernel_rfl) (fun _ => ?_)
   refine MX_op (by kernel_rfl) rfl <| Op_b [] 0 (sl A2 (n0.length + 1) c1) [sl A2 (n0.length + 1) c1] (Pt.at g_n 33) k_4 rfl (.kkkk (.kkkk (.kkkk (.kkkk (.kk .h))))) (by kernel_rfl) (by kernel_rfl) ?_
   intro w_3 k_5
   refine ⟨(k_5.sel .z), fun _ => ?_⟩
   refine MX_nil <| At_in <| At_go <| W_q [] (.n 4 (I (w64 (i + 1))) (.ss (.kk .z))) qe (by kernel_rfl) ?_
   exact At_rd (b1, w64 (i + 1)) (Option.some.inj hm).symm ⟨b1, w64 (i + 1), A2, n0.length + 1, c1, rfl, rfl, k_5.len 1 rfl, k_5⟩ (by kernel_rfl)
 rw [if_neg hc] at hm
 refine W_exit (At_te (At_te (At_ie ?_)))
 have hm := exit_of hm hr0
 refine At_go <| W_reg <| WLs 11 [] (.n 32 (.u64 (n_Count + (UInt64.ofInt ((b.length : Nat) : Int)))) (.n 34 (pt g_n 34) .z)) (qs g_n 0 <| qs g_n 0 <| qB k_ 0 rfl 34 (.u64 n_Count) (by kernel_rfl) <| qs g_n 0 <| qs g_n 0 <| qe) (by kernel_rfl) ?_
 refine WL_op <| Op_b [] 0 (.u64 (n_Count + (UInt64.ofInt ((b.length : Nat) : Int)))) [.u64 (n_Count + (UInt64.ofInt ((b.length : Nat) : Int)))] (Pt.at g_n 34) k_ rfl (.kkkk (.kkkk (.kkkk (.kkkk (.kk (.k .h)))))) (by kernel_rfl) (by kernel_rfl) ?_
 intro w_4 k_6
 refine WL_nil ?_
 obtain rfl := Option.some.inj hm
 refine At_en [] qe (by kernel_rfl) ?_
 exact ⟨A0, n0.length, c0, k_6.len 1 rfl, rfl, k_6⟩

-- quern/quernref02.Size
noncomputable def m_r02_Size (kind : Int) : Option Int :=
  (m_r02_Most kind).bind fun r_ => some r_
theorem c_r02_Size {F O : Nat → Prop} {w : World} (kind : Int) (k : Cx F O w w []) (r : Int) (hm : m_r02_Size kind = some r) :
    Calls Tryz.prog 121 (vals [I kind]) w (fun e w' => e = .returned (SV.val (I r)) ∧ Cx F O w w' []) := by
 unfold m_r02_Size at hm
 refine calls [I kind] Tryz.func121 rfl (of_decide_eq_true (by kernel_rfl)) ?_
 refine W_seq <| W_q [] .a qe (by kernel_rfl) ?_
 refine At_go <| W_seq <| W_reg <| WLs 1 [] (.n 3 (I kind) .z) qe (by kernel_rfl) ?_
 refine WL_op ?_
 obtain ⟨r_, h_r_, hm⟩ := ob hm
 refine Op_call [] 4 _ yz_go45 (by kernel_rfl) (c_r02_Most (F := N0) (O := N0) _ (Cx.refl _) _ h_r_) ?_
 rintro e_ w_ ⟨rfl, k_⟩
 have k_1 := k.call k_
 refine ⟨I r_, rfl, ?_⟩
 refine WLs 1 [] (.n 2 (I r_) .z) qe (by kernel_rfl) ?_
 refine WL_nil <| At_go <| W_ret ?_
 obtain rfl := Option.some.inj hm
 refine At_rt [I r_] qe (by kernel_rfl) ?_
 exact ⟨rfl, k_1⟩

-- quern/quernref02.place
noncomputable def m_r02_place (kind : Int) (field : Int) : Option (Int × Int) :=
  if ((decide (1 ≤ field)) && (decide (field ≤ 4))) = true then (some (w64 (field - 1), (1 : Int))) else (if field = 5 then (some ((4 : Int), (4 : Int))) else (if ((decide (field = 6)) && (decide (kind = 1))) = true then (some ((8 : Int), (8 : Int))) else (if field = 6 then (some ((8 : Int), (6 : Int))) else (if ((decide (field = 7)) && (decide (kind = 1))) = true then (some ((12 : Int), (4 : Int))) else (if field = 7 then (some ((12 : Int), (2 : Int))) else (if ((decide (field = 8)) && (decide (kind = 1))) = true then (some ((16 : Int), (1 : Int))) else (if field = 8 then (some ((14 : Int), (1 : Int))) else (if ((decide (field = 9)) && (decide (kind = 1))) = true then (some ((17 : Int), (1 : Int))) else (if field = 9 then (some ((15 : Int), (1 : Int))) else (some ((0 : Int), (0 : Int))))))))))))
theorem c_r02_place {F O : Nat → Prop} {w : World} (kind : Int) (field : Int) (k : Cx F O w w []) (r : (Int × Int)) (hm : m_r02_place kind field = some r) :
    Calls Tryz.prog 122 (vals [I kind, I field]) w (fun e w' => e = .returned (SV.val (.tup [I r.1, I r.2])) ∧ Cx F O w w' []) := by
 unfold m_r02_place at hm
 refine calls [I kind, I field] Tryz.func122 rfl (of_decide_eq_true (by kernel_rfl)) ?_
 refine W_seq <| W_q [] .a qe (by kernel_rfl) ?_
 refine At_go <| W_seq <| W_q [] (.n 6 (.b (decide (kind = 1))) (.s .a)) qe (by kernel_rfl) ?_
 refine At_go <| W_seq <| W_block <| W_seq <| W_q [] (.n 9 (.b ((decide (1 ≤ field)) && (decide (field ≤ 4)))) .a) qe (by kernel_rfl) ?_
 refine At_go <| W_cond ((decide (1 ≤ field)) && (decide (field ≤ 4))) (by kernel_rfl) (fun hc => ?_) (fun hc => ?_)
 · rw [if_pos hc] at hm
   refine W_seq <| W_q [] (.n 4 (I (w64 (field - 1))) (.n 5 (I 1) .z)) qe (by kernel_rfl) ?_
   refine At_go <| W_ret (At_ir (At_tr ?_))
   obtain rfl := Option.some.inj hm
   refine At_rt [I (w64 (field - 1)), I 1] qe (by kernel_rfl) ?_
   exact ⟨rfl, k⟩
 rw [if_neg (by rw [hc]; decide)] at hm
 refine W_seq <| W_q [] (.n 18 (.b (decide (field = 5))) (.s .a)) qe (by kernel_rfl) ?_
 refine At_go <| W_condp (field = 5) (by kernel_rfl) (fun hc1 => ?_) (fun hc1 => ?_)
 · rw [if_pos hc1] at hm
   refine W_seq <| W_q [] (.n 4 (I 4) (.n 5 (I 4) .z)) qe (by kernel_rfl) ?_
   refine At_go <| W_ret (At_ir (At_tr ?_))
   obtain rfl := Option.some.inj hm
   refine At_rt [I 4, I 4] qe (by kernel_rfl) ?_
   exact ⟨rfl, k⟩
 rw [if_neg hc1] at hm
 refine W_seq <| W_q [] (.n 21 (.b ((decide (field = 6)) && (decide (kind = 1)))) (.s .a)) qe (by kernel_rfl) ?_
 refine At_go <| W_cond ((decide (field = 6)) && (decide (kind = 1))) (by kernel_rfl) (fun hc2 => ?_) (fun hc2 => ?_)
 · rw [if_pos hc2] at hm
   refine W_seq <| W_q [] (.n 4 (I 8) (.n 5 (I 8) .z)) qe (by kernel_rfl) ?_
   refine At_go <| W_ret (At_ir (At_tr ?_))
   obtain rfl := Option.some.inj hm
   refine At_rt [I 8, I 8] qe (by kernel_rfl) ?_
   exact ⟨rfl, k⟩
 rw [if_neg (by rw [hc2]; decide)] at hm
 refine W_seq <| W_q [] (.n 27 (.b (decide (field = 6))) (.s .a)) qe (by kernel_rfl) ?_
 refine At_go <| W_condp (field = 6) (by kernel_rfl) (fun hc3 => ?_) (fun hc3 => ?_)
 · rw [if_pos hc3] at hm
   refine W_seq <| W_q [] (.n 4 (I 8) (.n 5 (I 6) .z)) qe (by kernel_rfl) ?_
   refine At_go <| W_ret (At_ir (At_tr ?_))
   obtain rfl := Option.some.inj hm
   refine At_rt [I 8, I 6] qe (by kernel_rfl) ?_
   exact ⟨rfl, k⟩
 rw [if_neg hc3] at hm
 refine W_seq <| W_q [] (.n 30 (.b ((decide (field = 7)) && (decide (kind = 1)))) (.s .a)) qe (by kernel_rfl) ?_
 refine At_go <| W_cond ((decide (field = 7)) && (decide (kind = 1))) (by kernel_rfl) (fun hc4 => ?_) (fun hc4 => ?_)
 · rw [if_pos hc4] at hm
   refine W_seq <| W_q [] (.n 4 (I 12) (.n 5 (I 4) .z)) qe (by kernel_rfl) ?_
   refine At_go <| W_ret (At_ir (At_tr ?_))
   obtain rfl := Option.some.inj hm
   refine At_rt [I 12, I 4] qe (by kernel_rfl) ?_
   exact ⟨rfl, k⟩
 rw [if_neg (by rw [hc4]; decide)] at hm
 refine W_seq <| W_q [] (.n 36 (.b (decide (field = 7))) (.s .a)) qe (by kernel_rfl) ?_
 refine At_go <| W_condp (field = 7) (by kernel_rfl) (fun hc5 => ?_) (fun hc5 => ?_)
 · rw [if_pos hc5] at hm
   refine W_seq <| W_q [] (.n 4 (I 12) (.n 5 (I 2) .z)) qe (by kernel_rfl) ?_
   refine At_go <| W_ret (At_ir (At_tr ?_))
   obtain rfl := Option.some.inj hm
   refine At_rt [I 12, I 2] qe (by kernel_rfl) ?_
   exact ⟨rfl, k⟩
 rw [if_neg hc5] at hm
 refine W_seq <| W_q [] (.n 39 (.b ((decide (field = 8)) && (decide (kind = 1)))) (.s .a)) qe (by kernel_rfl) ?_
 refine At_go <| W_cond ((decide (field = 8)) && (decide (kind = 1))) (by kernel_rfl) (fun hc6 => ?_) (fun hc6 => ?_)
 · rw [if_pos hc6] at hm
   refine W_seq <| W_q [] (.n 4 (I 16) (.n 5 (I 1) .z)) qe (by kernel_rfl) ?_
   refine At_go <| W_ret (At_ir (At_tr ?_))
   obtain rfl := Option.some.inj hm
   refine At_rt [I 16, I 1] qe (by kernel_rfl) ?_
   exact ⟨rfl, k⟩
 rw [if_neg (by rw [hc6]; decide)] at hm
 refine W_seq <| W_q [] (.n 45 (.b (decide (field = 8))) (.s .a)) qe (by kernel_rfl) ?_
 refine At_go <| W_condp (field = 8) (by kernel_rfl) (fun hc7 => ?_) (fun hc7 => ?_)
 · rw [if_pos hc7] at hm
   refine W_seq <| W_q [] (.n 4 (I 14) (.n 5 (I 1) .z)) qe (by kernel_rfl) ?_
   refine At_go <| W_ret (At_ir (At_tr ?_))
   obtain rfl := Option.some.inj hm
   refine At_rt [I 14, I 1] qe (by kernel_rfl) ?_
   exact ⟨rfl, k⟩
 rw [if_neg hc7] at hm
 refine W_seq <| W_q [] (.n 48 (.b ((decide (field = 9)) && (decide (kind = 1)))) (.ss .a)) qe (by kernel_rfl) ?_
 refine At_go <| W_cond ((decide (field = 9)) && (decide (kind = 1))) (by kernel_rfl) (fun hc8 => ?_) (fun hc8 => ?_)
 · rw [if_pos hc8] at hm
   refine W_seq <| W_q [] (.n 4 (I 17) (.n 5 (I 1) .z)) qe (by kernel_rfl) ?_
   refine At_go <| W_ret (At_ir (At_tr ?_))
   obtain rfl := Option.some.inj hm
   refine At_rt [I 17, I 1] qe (by kernel_rfl) ?_
   exact ⟨rfl, k⟩
 rw [if_neg (by rw [hc8]; decide)] at hm
 refine W_seq <| W_q [] (.n 54 (.b (decide (field = 9))) .z) qe (by kernel_rfl) ?_
 refine At_go <| W_condp (field = 9) (by kernel_rfl) (fun hc9 => ?_) (fun hc9 => ?_)
 · rw [if_pos hc9] at hm
   refine W_seq <| W_q [] (.n 4 (I 15) (.n 5 (I 1) .z)) qe (by kernel_rfl) ?_
   refine At_go <| W_ret (At_ir (At_tr ?_))
   obtain rfl := Option.some.inj hm
   refine At_rt [I 15, I 1] qe (by kernel_rfl) ?_
   exact ⟨rfl, k⟩
 rw [if_neg hc9] at hm
 refine W_skip <| At_in <| At_go <| W_seq <| W_q [] (.n 4 (I 0) (.n 5 (I 0) .z)) qe (by kernel_rfl) ?_
 refine At_go <| W_ret ?_
 obtain rfl := Option.some.inj hm
 refine At_rt [I 0, I 0] qe (by kernel_rfl) ?_
 exact ⟨rfl, k⟩

-- quern/quernref02.lay
noncomputable def m_r02_lay_l0 (at_ : Int) (n : Int) (v : UInt64) : (List UInt8 × Int) → Option ((List UInt8 × Int) ⊕ (List UInt8))
  | (b1, i) => if i < n then ((geti b1 (w64 (at_ + i))).bind fun x_0 => some (.inl (b1.set (Int.toNat (w64 (at_ + i))) (UInt8.ofNat (shr64 v (((8 : UInt64) * (UInt64.ofInt i)).toNat)).toNat), w64 (i + 1)))) else (Option.map Sum.inr (some b1))
noncomputable def m_r02_lay (b : List UInt8) (at_ : Int) (n : Int) (v : UInt64) : Option (List UInt8) :=
  whileO (m_r02_lay_l0 at_ n v) (b, (0 : Int))
theorem c_r02_lay {F O : Nat → Prop} {w : World} (b : List UInt8) (at_ : Int) (n : Int) (v : UInt64) (A_b : Option Addr) (n_b : Nat) (c_b : Nat) (G_b : Win) (hc_b : n_b ≤ c_b) (k : Cx F O w w [Mw e8 A_b n_b b G_b]) (r : (List UInt8)) (hm : m_r02_lay b at_ n v = some r) :
    Calls Tryz.prog 123 (vals [sl A_b n_b c_b, I at_, I n, .u64 v]) w (fun e w' => e = .returned (SV.val (.tup [])) ∧ Cx F O w w' [Mw e8 A_b n_b r G_b]) := by
 unfold m_r02_lay at hm
 obtain rfl := k.mlen 0 rfl
 refine calls [sl A_b b.length c_b, I at_, I n, .u64 v] Tryz.func123 rfl (of_decide_eq_true (by kernel_rfl)) ?_
 refine W_seq <| W_q [] (.n 8 (I 0) .a) qe (by kernel_rfl) ?_
 refine At_go <| W_block <| W_lp (m_r02_lay_l0 at_ n v) (fun s L wr => ∃ (b1 : List UInt8) (i : Int), (b1, i) = s ∧ L = [(0, sl A_b b.length c_b), (1, I at_), (2, I n), (3, .u64 v), (8, I i)] ∧ Cx F O w wr [Mw e8 A_b b.length b1 G_b]) (b, (0 : Int)) r hm ⟨b, (0 : Int), rfl, rfl, k⟩ (by kernel_rfl) ?_
 intro s0_ L_ w_ y0 hrel hstep hr0
 obtain ⟨b1, i, rfl, rfl, k_⟩ := hrel
 have hm := hstep; simp only [m_r02_lay_l0] at hm
 clear hstep
 refine W_seq <| W_seq <| W_q [] (.n 11 (.b (decide (i < n))) .a) qe (by kernel_rfl) ?_
 refine At_go <| W_condp (i < n) (by kernel_rfl) (fun hc => ?_) (fun hc => ?_)
 · rw [if_pos hc] at hm
   refine W_skip <| At_go <| W_seq <| W_block <| W_reg ?_
   obtain ⟨x_0, h_x_0, hm⟩ := ob hm
   refine WLs 11 [] (.n 23 (.u8 (UInt8.ofNat (shr64 v (((8 : UInt64) * (UInt64.ofInt i)).toNat)).toNat)) (.n 24 (.v (.pointer (ixA A_b (w64 (at_ + i)) 1))) (.s .a))) (qJ (k_.mrd 0 rfl) h_x_0 (k_.mlen 0 rfl) <| qe) (by kernel_rfl) ?_
   refine WL_op <| Op_mst (E := e8) (kk := 0) (sv := .u8 (UInt8.ofNat (shr64 v (((8 : UInt64) * (UInt64.ofInt i)).toNat)).toNat)) (svs := [.u8 (UInt8.ofNat (shr64 v (((8 : UInt64) * (UInt64.ofInt i)).toNat)).toNat)]) [] 0 (UInt8.ofNat (shr64 v (((8 : UInt64) * (UInt64.ofInt i)).toNat)).toNat) (by kernel_rfl) (Pt.ix1 A_b (w64 (at_ + i)) 1) k_ rfl (geti_some h_x_0).2 (E_ix (E := e8) (k_.mrd 0 rfl) (by decide) (geti_lt h_x_0).1 (geti_some h_x_0).2) rfl (Nat.le_of_ble_eq_true (by kernel_rfl)) ?_
   intro w_1 k_1
   refine WL_nil <| At_in <| At_go <| W_q [] (.n 8 (I (w64 (i + 1))) (.ss (.kkkk .z))) qe (by kernel_rfl) ?_
   exact At_rd (b1.set (Int.toNat (w64 (at_ + i))) (UInt8.ofNat (shr64 v (((8 : UInt64) * (UInt64.ofInt i)).toNat)).toNat), w64 (i + 1)) (Option.some.inj hm).symm ⟨b1.set (Int.toNat (w64 (at_ + i))) (UInt8.ofNat (shr64 v (((8 : UInt64) * (UInt64.ofInt i)).toNat)).toNat), w64 (i + 1), rfl, rfl, k_1⟩ (by kernel_rfl)
 rw [if_neg hc] at hm
 refine W_exit (At_te (At_te (At_ie ?_)))
 have hm := exit_of hm hr0
 obtain rfl := Option.some.inj hm
 refine At_en [] qe (by kernel_rfl) ?_
 exact ⟨rfl, k_⟩
end Go.Sx
