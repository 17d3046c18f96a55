import Derived.Test.YtlekdnlojpnlmaaE3
namespace Go.Sx
open Go.RowKit
set_option linter.unusedVariables false
set_option linter.unusedSimpArgs false
/-! ### streams of the kind 2 -/
theorem kdS : Kd 2 32 := ⟨.inr ⟨rfl, rfl⟩⟩
theorem noutS (d : Int) (blk key : List UInt8) (last : Bool) (wr : UInt64) (h : Vec UInt32 8) (lo hi : UInt64) (held : List UInt8) (hh : held.length ≤ 64) :
    m_node_Node_Out_s1 2 d blk key last wr h lo hi held 64 32 = some (Bys (fS h (pad 64 held) (cntb (lo, hi) (UInt64.ofNat held.length)) true last), 0, h, lo, hi, held, 64, 2, d, blk, key, last, wr) := by
  unfold m_node_Node_Out_s1 m_node_Node_none_s1
  simp only [Option.bind_some]
  rw [if_neg (by omega), show m_node_blockOf 2 = some 64 from rfl]
  simp only [Option.bind_some]
  rw [show w64 (Int.tdiv 64 2) = (32 : Int) from rfl, if_neg (by omega), woutS h (lo, hi) held last hh]
  simp only [Option.bind_some]
  rw [slc_ok (by rw [Bys_len]; omega)]
  simp only [Option.bind_some]
  rw [need_ok (by rw [Bys_len]; omega)]
  simp only [Option.bind_some]
  rw [show (32 : Int).toNat = (Bys (fS h (pad 64 held) (cntb (lo, hi) (UInt64.ofNat held.length)) true last)).length from by rw [Bys_len]; rfl]
  simp
section
variable (n : Nat) (hn : 1 ≤ n ∧ n ≤ 3000) (key : List UInt8)
include hn
theorem shapedS : m_xof_shaped 2 (n : Int) = some (2, 32, UInt32.ofInt (n : Int), UInt64.ofInt (n : Int), true, true) := by
  unfold m_xof_shaped
  rw [if_neg (by decide), if_pos rfl]
  unfold m_xof_shaped_j0
  have hkn : decide ((n : Int) ≠ -1) = true := decide_eq_true (by omega)
  have h1 : decide (1 ≤ (n : Int)) = true := decide_eq_true (by omega)
  have h2 : decide ((n : Int) ≤ 65534) = true := decide_eq_true (by omega)
  rw [hkn, if_neg (by decide), h1, h2]
  rfl
theorem validES (hk : 32 < key.length) : m_xof_valid 2 (n : Int) key [] [] = some (2, 32, UInt32.ofInt (n : Int), UInt64.ofInt (n : Int), true, 8) := by
  unfold m_xof_valid
  rw [shapedS n hn, Option.bind_some, if_neg (by dsimp only; decide), if_pos (by dsimp only; omega)]
theorem nx0S : UInt32.ofInt (n : Int) ≠ 0 := fun e => by
  have hx := ofN32 n (by omega)
  rw [e] at hx; have : (0 : UInt32).toNat = 0 := rfl; omega
theorem validS (hk : key.length ≤ 32) : m_xof_valid 2 (n : Int) key [] [] = some (2, 32, UInt32.ofInt (n : Int), UInt64.ofInt (n : Int), true, 0) := by
  have hx := ofN32 n (by omega)
  unfold m_xof_valid
  rw [shapedS n hn, Option.bind_some, if_neg (by dsimp only; decide), if_neg (by dsimp only; omega)]
  unfold m_xof_shape_pars
  rw [Option.bind_some]
  dsimp only
  rw [check_ok, chkRoot 2 32 8 rfl rfl (by omega) (by omega) _ (nx0S n hn) (by omega) _ (by omega), Option.bind_some]
theorem nodeNS (hk : key.length ≤ 32) : ∃ blk, blk.length = 32 ∧ m_node_New 2 32 ((key.length : Nat) : Int) 1 1 0 0 (UInt32.ofInt (n : Int)) 0 0 [] [] key = some (Sum.inr (Sum.inr (2, 32, blk, key, Sts blk, 0, 0, small.kb key, 64))) := by
  have hx := ofN32 n (by omega)
  obtain ⟨he1, _⟩ := enc_ok 2 32 ((key.length : Nat) : Int) 1 1 0 0 (UInt32.ofInt (n : Int)) 0 0 [] [] (chkRoot 2 32 8 rfl rfl (by omega) (by omega) _ (nx0S n hn) (by omega) _ (by omega))
  have hbl : (encB 2 32 ((key.length : Nat) : Int) 1 1 0 0 (UInt32.ofInt (n : Int)) 0 0 [] []).length = 32 := by rw [encB_len _ _ _ _ _ _ _ _ _ _ _ _ (.inr ⟨rfl, by simp, by simp⟩)]; rfl
  refine ⟨_, hbl, ?_⟩
  unfold m_node_New
  rw [he1]
  rw [Option.bind_some]
  dsimp only
  rw [if_neg (fun q => q rfl), if_neg (by simp)]
  unfold m_node_made
  rw [app_ok (by simp; omega), app_ok (by simp; omega)]
  rw [Option.bind_some, Option.bind_some, List.nil_append, List.nil_append]
  rw [beginS 32 _ key hbl (by omega)]
  rw [Option.bind_some, Sum.elim_inr, Option.bind_some, Sum.elim_inr]
omit hn in
theorem own_wS (b : List UInt8) (h : b.length ≤ 64) : m_xof_own b = some b := by
  unfold m_xof_own
  rw [app_ok (by simp only [List.length_nil]; omega), Option.bind_some, List.nil_append]
theorem newES (hk : 32 < key.length) : m_xof_New_w 2 (n : Int) key [] [] = some (Sum.inl 8) := by
  unfold m_xof_New_w
  rw [validES n hn key hk, Option.bind_some, if_pos (by dsimp only; decide)]
theorem newNS (hk : key.length ≤ 32) : ∃ blk, blk.length = 32 ∧ m_xof_New_w 2 (n : Int) key [] [] = some (Sum.inr (Sum.inr (2, 32, UInt32.ofInt (n : Int), UInt64.ofInt (n : Int), true, key, [], [], 2, 32, blk, key, Sts blk, 0, 0, small.kb key, 64, Vec.rep 64 (0 : UInt8)))) := by
  obtain ⟨blk, hb, hnn⟩ := nodeNS n hn key hk
  refine ⟨blk, hb, ?_⟩
  unfold m_xof_New_w
  rw [validS n hn key hk, Option.bind_some, if_neg (fun q => q rfl), own_wS key (by omega), own_wS [] (by simp)]
  rw [Option.bind_some, Option.bind_some, Option.bind_some]
  unfold m_xof_Stream_begin_w m_xof_shape_pars
  dsimp only
  rw [Option.bind_some]
  dsimp only
  rw [hnn, Option.bind_some, Sum.elim_inr, Sum.elim_inr, Option.bind_some, Sum.elim_inr]
end
/-- what a message comes to -/
noncomputable def runS (blk key data : List UInt8) : Vec UInt32 8 × (UInt64 × UInt64) × List UInt8 := absorb (fun h b c => fS h b c false false) 64 (Sts blk) (0, 0) (small.kb key ++ data)
noncomputable def rootS (blk key data : List UInt8) : List UInt8 := Bys (fS (runS blk key data).1 (pad 64 (runS blk key data).2.2) (cntb (runS blk key data).2.1 (UInt64.ofNat (runS blk key data).2.2.length)) true false)
theorem root_lenS (blk key data : List UInt8) : (rootS blk key data).length = 32 := Bys_len _
theorem run_heldS (blk key data : List UInt8) : (runS blk key data).2.2.length ≤ 64 := (small.held blk (small.kb key ++ data)).1
section
variable (n : Nat) (key : List UInt8) (d : Int) (blk nk : List UInt8) (wr : UInt64) (at_ : UInt64) (now : Vec UInt8 64) (hv : Int)
theorem writeS (hk : key.length ≤ 32) (data : List UInt8) (hd : data.length ≤ 1048576) (x : UInt32) (t : UInt64) :
    m_xof_Stream_Write_s1 2 32 x t true key [] [] 2 d blk key false wr (Sts blk) 0 0 (small.kb key) 64 at_ now hv data =
      some ((runS blk key data).1, (runS blk key data).2.1.1, (runS blk key data).2.1.2, (runS blk key data).2.2, 64, 2, d, blk, key, false, wr + UInt64.ofInt ((data.length : Nat) : Int), 2, 32, x, t, true, key, [], [], at_, now, hv) := by
  unfold m_xof_Stream_Write_s1 m_xof_Stream_none_s2
  rw [Option.bind_some]
  unfold m_xof_Stream_takes_s1 m_node_Node_Write_s1 m_node_Node_none_s1
  dsimp only
  rw [Option.bind_some, wwriteS (Sts blk) (0, 0) (small.kb key) data (by omega) (small.kb_len key (by show key.length ≤ 64; omega)), Option.bind_some, Option.bind_some, Option.bind_some]
  rfl
variable (h : Vec UInt32 8) (lo hi : UInt64) (held R : List UInt8) (hR : R.length = 32) (last : Bool)
  (hno : m_node_Node_Out_s1 2 d blk nk last wr h lo hi held 64 32 = some (R, 0, h, lo, hi, held, 64, 2, d, blk, nk, last, wr))
include hR hno in
theorem giveS (x : UInt32) (t : UInt64) : m_xof_Stream_give_s2 2 32 x t true key [] [] 2 d blk nk last wr h lo hi held 64 at_ now hv = some (h, lo, hi, held, 64, 2, d, blk, nk, last, wr, 2, 32, x, t, true, key, [], [], R, at_, now, hv) := by
  unfold m_xof_Stream_give_s2
  rw [hno]
  rw [Option.bind_some]
  rw [need_ok (by intro e; dsimp only at e; rw [e] at hR; cases hR)]
  rfl
include hR hno in
theorem skipS (hn : 1 ≤ n ∧ n ≤ 3000) (x : UInt32) (fr : UInt64) (hfr : fr.toNat ≤ n) : m_xof_Stream_Skip_s1 2 32 x (UInt64.ofInt (n : Int)) true key [] [] 2 d blk nk last wr h lo hi held 64 0 now hv fr =
    some (fr, 0, h, lo, hi, held, 64, 2, d, blk, nk, last, wr, 2, 32, x, UInt64.ofInt (n : Int), true, key, [], [], R, 0 + fr, now, hv) := by
  have hn' := ofN64 n (by omega)
  have hs0 : UInt64.ofInt (n : Int) - 0 = UInt64.ofInt (n : Int) := by simp
  unfold m_xof_Stream_Skip_s1 m_xof_Stream_none_s2
  rw [Option.bind_some, giveS key d blk nk wr 0 now hv h lo hi held R hR last hno x (UInt64.ofInt (n : Int)), Option.bind_some]
  dsimp only
  rw [hs0, if_neg (by
    rw [decide_eq_false (p := UInt64.ofInt (n : Int) = 0) (fun e => by rw [e] at hn'; have : (0 : UInt64).toNat = 0 := rfl; omega), Bool.and_false]; decide)]
  have hmin : umin fr (UInt64.ofInt (n : Int)) = fr := by
    unfold umin
    rw [if_neg (fun e => by have := UInt64.lt_iff_toNat_lt.1 e; omega)]
  rw [hmin]
end
section
variable (n : Nat) (hn : 1 ≤ n ∧ n ≤ 3000) (key : List UInt8) (d : Int) (blk nk : List UInt8) (wr : UInt64) (at_ : UInt64) (now : Vec UInt8 64) (hv : Int) (h : Vec UInt32 8) (lo hi : UInt64) (held R : List UInt8) (hR : R.length = 32) (last : Bool)
  (a m : Nat) (hat : at_.toNat = a) (han : a ≤ n) (hm : m ≤ 65536) (ho : Okw 2 32 R n now hv)
include hn hR hat han hm ho
theorem readS : ∃ (e : Int) (at' : UInt64) (now' : Vec UInt8 64) (hv' : Int), at'.toNat = a + min m (n - a) ∧ Okw 2 32 R n now' hv' ∧ (e ≠ 0 → a = n ∧ m ≠ 0) ∧
    m_xof_Stream_Read_s1 2 32 (UInt32.ofInt (n : Int)) (UInt64.ofInt (n : Int)) true key [] [] 2 d blk nk last wr h lo hi held 64 R at_ now hv (m : Int) = some (seg 2 32 R n a (min m (n - a)), e, h, lo, hi, held, 64, 2, d, blk, nk, last, wr, 2, 32, UInt32.ofInt (n : Int), UInt64.ofInt (n : Int), true, key, [], [], at', now', hv') := by
  have hn' := ofN64 n (by omega)
  have hm' := ofN64 m (by omega)
  have hsub : (UInt64.ofInt (n : Int) - at_).toNat = n - a := by
    rw [UInt64.toNat_sub_of_le _ _ (UInt64.le_iff_toNat_le.2 (by rw [hat, hn']; omega)), hat, hn']
  unfold m_xof_Stream_Read_s1 m_xof_Stream_none_s3
  rw [Option.bind_some, if_neg (fo (decide_eq_false (by omega)) (decide_eq_false (by omega)))]
  unfold m_xof_Stream_give_s3
  rw [Option.bind_some]
  dsimp only
  by_cases hz : 0 < m ∧ a = n
  · refine ⟨70, at_, now, hv, by omega, ho, fun _ => ⟨hz.2, by omega⟩, ?_⟩
    rw [if_pos (by
      rw [decide_eq_true (p := 0 < (m : Int)) (by omega), decide_eq_true (p := UInt64.ofInt (n : Int) - at_ = 0) (UInt64.toNat_inj.1 (by rw [hsub]; show n - a = 0; omega))]; rfl)]
    rw [show min m (n - a) = 0 from by omega]
    rfl
  · rw [if_neg (by
      by_cases h0 : 0 < m
      · rw [decide_eq_false (p := UInt64.ofInt (n : Int) - at_ = 0) (fun e => by have := congrArg UInt64.toNat e; rw [hsub] at this; have e0 : (0 : UInt64).toNat = 0 := rfl; omega), Bool.and_false]; decide
      · rw [decide_eq_false (p := 0 < (m : Int)) (by omega), Bool.false_and]; decide)]
    have loop : ∀ M : Nat, a + M ≤ n → ∃ (at' : UInt64) (now' : Vec UInt8 64) (hv' : Int), at'.toNat = a + M ∧ Okw 2 32 R n now' hv' ∧
        m_xof_Stream_Read_s1_j0 R (h, lo, hi, held, 64, 2, d, blk, nk, last, wr, 2, 32, UInt32.ofInt (n : Int), UInt64.ofInt (n : Int), true, key, [], [], at_, now, hv) (M : Int) = some (seg 2 32 R n a M, 0, h, lo, hi, held, 64, 2, d, blk, nk, last, wr, 2, 32, UInt32.ofInt (n : Int), UInt64.ofInt (n : Int), true, key, [], [], at', now', hv') := by
      intro M hM
      unfold m_xof_Stream_Read_s1_j0
      refine rdLoop kdS R (by omega) n hn _ (fun at_ now hv out => (out, 0, h, lo, hi, held, 64, 2, d, blk, nk, last, wr, 2, 32, UInt32.ofInt (n : Int), UInt64.ofInt (n : Int), true, key, [], [], at_, now, hv)) M a hM (fun at_ now hv out ho => ?_) (fun at_ now hv out ho => ?_) M at_ now hv [] (by simp) (by rw [hat]; rfl) rfl ho
      · unfold m_xof_Stream_Read_s1_l0
        dsimp only
        rw [if_pos ho, need_ok (show UInt64.ofInt (32 : Int) ≠ 0 from sne kdS), Option.bind_some]
        rfl
      · unfold m_xof_Stream_Read_s1_l0
        dsimp only
        rw [if_neg ho]
        rfl
    obtain ⟨at', now', hv', q1, q2, q3⟩ := loop (min m (n - a)) (by omega)
    refine ⟨0, at', now', hv', q1, q2, fun q => absurd rfl q, ?_⟩
    by_cases hc : (UInt64.ofInt (n : Int) - at_) < UInt64.ofInt (m : Int)
    · have := UInt64.lt_iff_toNat_lt.1 hc
      rw [hsub, hm'] at this
      rw [if_pos hc, hsub, w64n _ (by omega), show n - a = min m (n - a) from by omega]
      rw [show min m (min m (n - a)) = min m (n - a) from by omega]
      exact q3
    · have : ¬ n - a < m := fun q => hc (UInt64.lt_iff_toNat_lt.2 (by rw [hsub, hm']; exact q))
      rw [if_neg hc]
      have e : min m (n - a) = m := by omega
      rw [e] at q3 ⊢
      exact q3
theorem readNS (hno : m_node_Node_Out_s1 2 d blk nk last wr h lo hi held 64 32 = some (R, 0, h, lo, hi, held, 64, 2, d, blk, nk, last, wr)) : ∃ (e : Int) (at' : UInt64) (now' : Vec UInt8 64) (hv' : Int), at'.toNat = a + min m (n - a) ∧ Okw 2 32 R n now' hv' ∧ (e ≠ 0 → a = n ∧ m ≠ 0) ∧
    m_xof_Stream_Read_s3 2 32 (UInt32.ofInt (n : Int)) (UInt64.ofInt (n : Int)) true key [] [] 2 d blk nk last wr h lo hi held 64 at_ now hv (m : Int) = some (seg 2 32 R n a (min m (n - a)), e, h, lo, hi, held, 64, 2, d, blk, nk, last, wr, 2, 32, UInt32.ofInt (n : Int), UInt64.ofInt (n : Int), true, key, [], [], R, at', now', hv') := by
  have hn' := ofN64 n (by omega)
  have hm' := ofN64 m (by omega)
  have hsub : (UInt64.ofInt (n : Int) - at_).toNat = n - a := by
    rw [UInt64.toNat_sub_of_le _ _ (UInt64.le_iff_toNat_le.2 (by rw [hat, hn']; omega)), hat, hn']
  unfold m_xof_Stream_Read_s3 m_xof_Stream_none_s2
  rw [Option.bind_some, if_neg (fo (decide_eq_false (by omega)) (decide_eq_false (by omega)))]
  rw [giveS key d blk nk wr at_ now hv h lo hi held R hR last hno (UInt32.ofInt (n : Int)) (UInt64.ofInt (n : Int)), Option.bind_some]
  dsimp only
  by_cases hz : 0 < m ∧ a = n
  · refine ⟨70, at_, now, hv, by omega, ho, fun _ => ⟨hz.2, by omega⟩, ?_⟩
    rw [if_pos (by
      rw [decide_eq_true (p := 0 < (m : Int)) (by omega), decide_eq_true (p := UInt64.ofInt (n : Int) - at_ = 0) (UInt64.toNat_inj.1 (by rw [hsub]; show n - a = 0; omega))]; rfl)]
    rw [show min m (n - a) = 0 from by omega]
    rfl
  · rw [if_neg (by
      by_cases h0 : 0 < m
      · rw [decide_eq_false (p := UInt64.ofInt (n : Int) - at_ = 0) (fun e => by have := congrArg UInt64.toNat e; rw [hsub] at this; have e0 : (0 : UInt64).toNat = 0 := rfl; omega), Bool.and_false]; decide
      · rw [decide_eq_false (p := 0 < (m : Int)) (by omega), Bool.false_and]; decide)]
    have loop : ∀ M : Nat, a + M ≤ n → ∃ (at' : UInt64) (now' : Vec UInt8 64) (hv' : Int), at'.toNat = a + M ∧ Okw 2 32 R n now' hv' ∧
        m_xof_Stream_Read_s3_j0 (h, lo, hi, held, 64, 2, d, blk, nk, last, wr, 2, 32, UInt32.ofInt (n : Int), UInt64.ofInt (n : Int), true, key, [], [], R, at_, now, hv) (M : Int) = some (seg 2 32 R n a M, 0, h, lo, hi, held, 64, 2, d, blk, nk, last, wr, 2, 32, UInt32.ofInt (n : Int), UInt64.ofInt (n : Int), true, key, [], [], R, at', now', hv') := by
      intro M hM
      unfold m_xof_Stream_Read_s3_j0
      refine rdLoop kdS R (by omega) n hn _ (fun at_ now hv out => (out, 0, h, lo, hi, held, 64, 2, d, blk, nk, last, wr, 2, 32, UInt32.ofInt (n : Int), UInt64.ofInt (n : Int), true, key, [], [], R, at_, now, hv)) M a hM (fun at_ now hv out ho => ?_) (fun at_ now hv out ho => ?_) M at_ now hv [] (by simp) (by rw [hat]; rfl) rfl ho
      · unfold m_xof_Stream_Read_s3_l0
        dsimp only
        rw [if_pos ho, need_ok (show UInt64.ofInt (32 : Int) ≠ 0 from sne kdS), Option.bind_some]
        rfl
      · unfold m_xof_Stream_Read_s3_l0
        dsimp only
        rw [if_neg ho]
        rfl
    obtain ⟨at', now', hv', q1, q2, q3⟩ := loop (min m (n - a)) (by omega)
    refine ⟨0, at', now', hv', q1, q2, fun q => absurd rfl q, ?_⟩
    by_cases hc : (UInt64.ofInt (n : Int) - at_) < UInt64.ofInt (m : Int)
    · have := UInt64.lt_iff_toNat_lt.1 hc
      rw [hsub, hm'] at this
      rw [if_pos hc, hsub, w64n _ (by omega), show n - a = min m (n - a) from by omega]
      rw [show min m (min m (n - a)) = min m (n - a) from by omega]
      exact q3
    · have : ¬ n - a < m := fun q => hc (UInt64.lt_iff_toNat_lt.2 (by rw [hsub, hm']; exact q))
      rw [if_neg hc]
      have e : min m (n - a) = m := by omega
      rw [e] at q3 ⊢
      exact q3
end
theorem rnoS (d : Int) (blk key data nk : List UInt8) (wr : UInt64) : m_node_Node_Out_s1 2 d blk nk false wr (runS blk key data).1 (runS blk key data).2.1.1 (runS blk key data).2.1.2 (runS blk key data).2.2 64 32 = some (rootS blk key data, 0, (runS blk key data).1, (runS blk key data).2.1.1, (runS blk key data).2.1.2, (runS blk key data).2.2, 64, 2, d, blk, nk, false, wr) :=
  noutS d blk nk false wr _ _ _ _ (run_heldS blk key data)
theorem xtakeS (n : Nat) (hn : 1 ≤ n ∧ n ≤ 3000) (key : List UInt8) (hk : key.length ≤ 32) (data : List UInt8) (hd : data.length ≤ 1048576) (blk : List UInt8)
    (hnw : m_xof_New_w 2 (n : Int) key [] [] = some (Sum.inr (Sum.inr (2, 32, UInt32.ofInt (n : Int), UInt64.ofInt (n : Int), true, key, [], [], 2, 32, blk, key, Sts blk, 0, 0, small.kb key, 64, Vec.rep 64 (0 : UInt8)))))
    (fr : UInt64) (m : Nat) (hm : fr.toNat + m ≤ n) : m_xof_Take 2 (n : Int) key data fr (m : Int) = some (seg 2 32 (rootS blk key data) n fr.toNat m, 0) := by
  have hn' := ofN64 n (by omega)
  obtain ⟨e, at', now', hv', q1, q2, q3, q4⟩ := readS n hn key 32 blk key (0 + UInt64.ofInt ((data.length : Nat) : Int)) (0 + fr) (Vec.rep 64 (0 : UInt8)) (-1) (runS blk key data).1 (runS blk key data).2.1.1 (runS blk key data).2.1.2 (runS blk key data).2.2 (rootS blk key data) (root_lenS blk key data) false fr.toNat m (by simp) (by omega) (by omega) (okw_new _ _ _ _ _)
  have he : e = 0 := by
    by_cases h : e = 0
    · exact h
    · have := q3 h; omega
  subst he
  unfold m_xof_Take
  rw [hnw, Option.bind_some, Sum.elim_inr, Sum.elim_inr]
  dsimp only
  rw [if_neg (fo (decide_eq_false (by omega)) (decide_eq_false (by omega))), if_neg (by
    by_cases h0 : 0 < m
    · rw [decide_eq_false (p := UInt64.ofInt (n : Int) ≤ fr) (fun q => by have := UInt64.le_iff_toNat_le.1 q; omega), Bool.and_false]; decide
    · rw [decide_eq_false (p := 0 < (m : Int)) (by omega), Bool.false_and]; decide)]
  rw [writeS key 32 blk 0 0 (Vec.rep 64 (0 : UInt8)) (-1) hk data hd, Option.bind_some]
  dsimp only
  rw [skipS n key 32 blk key _ (Vec.rep 64 (0 : UInt8)) (-1) _ _ _ _ _ (root_lenS blk key data) false (rnoS 32 blk key data key _) hn _ fr (by omega), Option.bind_some]
  dsimp only
  rw [q4, Option.bind_some, show min m (n - fr.toNat) = m from by omega]
end Go.Sx

