import Derived.Test.YtlekdnlojpnlmaaE2
namespace Go.Sx
open Go.RowKit
set_option linter.unusedVariables false
set_option linter.unusedSimpArgs false
/-! ### streams of the kind 1 -/
theorem kdB : Kd 1 64 := ⟨.inl ⟨rfl, rfl⟩⟩
theorem noutB (d : Int) (blk key : List UInt8) (last : Bool) (wr : UInt64) (h : Vec UInt64 8) (lo hi : UInt64) (held : List UInt8) (hh : held.length ≤ 128) :
    m_node_Node_Out 1 d blk key last wr h lo hi held 128 64 = some (Byb (fB h (pad 128 held) (cntb (lo, hi) (UInt64.ofNat held.length)) true last), 0, h, lo, hi, held, 128, 1, d, blk, key, last, wr) := by
  unfold m_node_Node_Out m_node_Node_none
  simp only [Option.bind_some]
  rw [if_neg (by omega), show m_node_blockOf 1 = some 128 from rfl]
  simp only [Option.bind_some]
  rw [show w64 (Int.tdiv 128 2) = (64 : Int) from rfl, if_neg (by omega), woutB h (lo, hi) held last hh]
  simp only [Option.bind_some]
  rw [slc_ok (by rw [Byb_len]; omega)]
  simp only [Option.bind_some]
  rw [need_ok (by rw [Byb_len]; omega)]
  simp only [Option.bind_some]
  rw [show (64 : Int).toNat = (Byb (fB h (pad 128 held) (cntb (lo, hi) (UInt64.ofNat held.length)) true last)).length from by rw [Byb_len]; rfl]
  simp
section
variable (n : Nat) (hn : 1 ≤ n ∧ n ≤ 3000) (key : List UInt8)
include hn
theorem shapedB : m_xof_shaped 1 (n : Int) = some (1, 64, UInt32.ofInt (n : Int), UInt64.ofInt (n : Int), true, true) := by
  unfold m_xof_shaped
  rw [if_pos rfl]
  unfold m_xof_shaped_j0
  have hkn : decide ((n : Int) ≠ -1) = true := decide_eq_true (by omega)
  have h1 : decide (1 ≤ (n : Int)) = true := decide_eq_true (by omega)
  have h2 : decide ((n : Int) ≤ 4294967294) = true := decide_eq_true (by omega)
  rw [hkn, if_neg (by decide), h1, h2]
  rfl
theorem validEB (hk : 64 < key.length) : m_xof_valid 1 (n : Int) key [] [] = some (1, 64, UInt32.ofInt (n : Int), UInt64.ofInt (n : Int), true, 8) := by
  unfold m_xof_valid
  rw [shapedB n hn, Option.bind_some, if_neg (by dsimp only; decide), if_pos (by dsimp only; omega)]
theorem nx0B : UInt32.ofInt (n : Int) ≠ 0 := fun e => by
  have hx := ofN32 n (by omega)
  rw [e] at hx; have : (0 : UInt32).toNat = 0 := rfl; omega
theorem validB (hk : key.length ≤ 64) : m_xof_valid 1 (n : Int) key [] [] = some (1, 64, UInt32.ofInt (n : Int), UInt64.ofInt (n : Int), true, 0) := by
  have hx := ofN32 n (by omega)
  unfold m_xof_valid
  rw [shapedB n hn, Option.bind_some, if_neg (by dsimp only; decide), if_neg (by dsimp only; omega)]
  unfold m_xof_shape_pars
  rw [Option.bind_some]
  dsimp only
  rw [check_ok, chkRoot 1 64 16 rfl rfl (by omega) (by omega) _ (nx0B n hn) (by omega) _ (by omega), Option.bind_some]
theorem nodeNB (hk : key.length ≤ 64) : ∃ blk, blk.length = 64 ∧ m_node_New 1 64 ((key.length : Nat) : Int) 1 1 0 0 (UInt32.ofInt (n : Int)) 0 0 [] [] key = some (Sum.inr (Sum.inl (1, 64, blk, key, Stb blk, 0, 0, big.kb key, 128))) := by
  have hx := ofN32 n (by omega)
  obtain ⟨he1, _⟩ := enc_ok 1 64 ((key.length : Nat) : Int) 1 1 0 0 (UInt32.ofInt (n : Int)) 0 0 [] [] (chkRoot 1 64 16 rfl rfl (by omega) (by omega) _ (nx0B n hn) (by omega) _ (by omega))
  have hbl : (encB 1 64 ((key.length : Nat) : Int) 1 1 0 0 (UInt32.ofInt (n : Int)) 0 0 [] []).length = 64 := by rw [encB_len _ _ _ _ _ _ _ _ _ _ _ _ (.inl ⟨rfl, by simp, by simp⟩)]; rfl
  refine ⟨_, hbl, ?_⟩
  unfold m_node_New
  rw [he1]
  rw [Option.bind_some]
  dsimp only
  rw [if_neg (fun q => q rfl), if_neg (by simp)]
  unfold m_node_made
  rw [app_ok (by simp; omega), app_ok (by simp; omega)]
  rw [Option.bind_some, Option.bind_some, List.nil_append, List.nil_append]
  rw [beginB 64 _ key hbl (by omega)]
  rw [Option.bind_some, Sum.elim_inl, Option.bind_some, Sum.elim_inl]
omit hn in
theorem own_wB (b : List UInt8) (h : b.length ≤ 64) : m_xof_own b = some b := by
  unfold m_xof_own
  rw [app_ok (by simp only [List.length_nil]; omega), Option.bind_some, List.nil_append]
theorem newEB (hk : 64 < key.length) : m_xof_New_w 1 (n : Int) key [] [] = some (Sum.inl 8) := by
  unfold m_xof_New_w
  rw [validEB n hn key hk, Option.bind_some, if_pos (by dsimp only; decide)]
theorem newNB (hk : key.length ≤ 64) : ∃ blk, blk.length = 64 ∧ m_xof_New_w 1 (n : Int) key [] [] = some (Sum.inr (Sum.inl (1, 64, UInt32.ofInt (n : Int), UInt64.ofInt (n : Int), true, key, [], [], 1, 64, blk, key, Stb blk, 0, 0, big.kb key, 128, Vec.rep 64 (0 : UInt8)))) := by
  obtain ⟨blk, hb, hnn⟩ := nodeNB n hn key hk
  refine ⟨blk, hb, ?_⟩
  unfold m_xof_New_w
  rw [validB n hn key hk, Option.bind_some, if_neg (fun q => q rfl), own_wB key (by omega), own_wB [] (by simp)]
  rw [Option.bind_some, Option.bind_some, Option.bind_some]
  unfold m_xof_Stream_begin_w m_xof_shape_pars
  dsimp only
  rw [Option.bind_some]
  dsimp only
  rw [hnn, Option.bind_some, Sum.elim_inr, Sum.elim_inl, Option.bind_some, Sum.elim_inl]
end
/-- what a message comes to -/
noncomputable def runB (blk key data : List UInt8) : Vec UInt64 8 × (UInt64 × UInt64) × List UInt8 := absorb (fun h b c => fB h b c false false) 128 (Stb blk) (0, 0) (big.kb key ++ data)
noncomputable def rootB (blk key data : List UInt8) : List UInt8 := Byb (fB (runB blk key data).1 (pad 128 (runB blk key data).2.2) (cntb (runB blk key data).2.1 (UInt64.ofNat (runB blk key data).2.2.length)) true false)
theorem root_lenB (blk key data : List UInt8) : (rootB blk key data).length = 64 := Byb_len _
theorem run_heldB (blk key data : List UInt8) : (runB blk key data).2.2.length ≤ 128 := (big.held blk (big.kb key ++ data)).1
section
variable (n : Nat) (key : List UInt8) (d : Int) (blk nk : List UInt8) (wr : UInt64) (at_ : UInt64) (now : Vec UInt8 64) (hv : Int)
theorem writeB (hk : key.length ≤ 64) (data : List UInt8) (hd : data.length ≤ 1048576) (x : UInt32) (t : UInt64) :
    m_xof_Stream_Write 1 64 x t true key [] [] 1 d blk key false wr (Stb blk) 0 0 (big.kb key) 128 at_ now hv data =
      some ((runB blk key data).1, (runB blk key data).2.1.1, (runB blk key data).2.1.2, (runB blk key data).2.2, 128, 1, d, blk, key, false, wr + UInt64.ofInt ((data.length : Nat) : Int), 1, 64, x, t, true, key, [], [], at_, now, hv) := by
  unfold m_xof_Stream_Write m_xof_Stream_none
  rw [Option.bind_some]
  unfold m_xof_Stream_takes m_node_Node_Write m_node_Node_none
  dsimp only
  rw [Option.bind_some, wwriteB (Stb blk) (0, 0) (big.kb key) data (by omega) (big.kb_len key (by show key.length ≤ 128; omega)), Option.bind_some, Option.bind_some, Option.bind_some]
  rfl
variable (h : Vec UInt64 8) (lo hi : UInt64) (held R : List UInt8) (hR : R.length = 64) (last : Bool)
  (hno : m_node_Node_Out 1 d blk nk last wr h lo hi held 128 64 = some (R, 0, h, lo, hi, held, 128, 1, d, blk, nk, last, wr))
include hR hno in
theorem giveB (x : UInt32) (t : UInt64) : m_xof_Stream_give 1 64 x t true key [] [] 1 d blk nk last wr h lo hi held 128 at_ now hv = some (h, lo, hi, held, 128, 1, d, blk, nk, last, wr, 1, 64, x, t, true, key, [], [], R, at_, now, hv) := by
  unfold m_xof_Stream_give
  rw [hno]
  rw [Option.bind_some]
  rw [need_ok (by intro e; dsimp only at e; rw [e] at hR; cases hR)]
  rfl
include hR hno in
theorem skipB (hn : 1 ≤ n ∧ n ≤ 3000) (x : UInt32) (fr : UInt64) (hfr : fr.toNat ≤ n) : m_xof_Stream_Skip 1 64 x (UInt64.ofInt (n : Int)) true key [] [] 1 d blk nk last wr h lo hi held 128 0 now hv fr =
    some (fr, 0, h, lo, hi, held, 128, 1, d, blk, nk, last, wr, 1, 64, x, UInt64.ofInt (n : Int), true, key, [], [], R, 0 + fr, now, hv) := by
  have hn' := ofN64 n (by omega)
  have hs0 : UInt64.ofInt (n : Int) - 0 = UInt64.ofInt (n : Int) := by simp
  unfold m_xof_Stream_Skip m_xof_Stream_none
  rw [Option.bind_some, giveB key d blk nk wr 0 now hv h lo hi held R hR last hno x (UInt64.ofInt (n : Int)), Option.bind_some]
  dsimp only
  rw [hs0, if_neg (by
    rw [decide_eq_false (p := UInt64.ofInt (n : Int) = 0) (fun e => by rw [e] at hn'; have : (0 : UInt64).toNat = 0 := rfl; omega), Bool.and_false]; decide)]
  have hmin : umin fr (UInt64.ofInt (n : Int)) = fr := by
    unfold umin
    rw [if_neg (fun e => by have := UInt64.lt_iff_toNat_lt.1 e; omega)]
  rw [hmin]
end
section
variable (n : Nat) (hn : 1 ≤ n ∧ n ≤ 3000) (key : List UInt8) (d : Int) (blk nk : List UInt8) (wr : UInt64) (at_ : UInt64) (now : Vec UInt8 64) (hv : Int) (h : Vec UInt64 8) (lo hi : UInt64) (held R : List UInt8) (hR : R.length = 64) (last : Bool)
  (a m : Nat) (hat : at_.toNat = a) (han : a ≤ n) (hm : m ≤ 65536) (ho : Okw 1 64 R n now hv)
include hn hR hat han hm ho
theorem readB : ∃ (e : Int) (at' : UInt64) (now' : Vec UInt8 64) (hv' : Int), at'.toNat = a + min m (n - a) ∧ Okw 1 64 R n now' hv' ∧ (e ≠ 0 → a = n ∧ m ≠ 0) ∧
    m_xof_Stream_Read 1 64 (UInt32.ofInt (n : Int)) (UInt64.ofInt (n : Int)) true key [] [] 1 d blk nk last wr h lo hi held 128 R at_ now hv (m : Int) = some (seg 1 64 R n a (min m (n - a)), e, h, lo, hi, held, 128, 1, d, blk, nk, last, wr, 1, 64, UInt32.ofInt (n : Int), UInt64.ofInt (n : Int), true, key, [], [], at', now', hv') := by
  have hn' := ofN64 n (by omega)
  have hm' := ofN64 m (by omega)
  have hsub : (UInt64.ofInt (n : Int) - at_).toNat = n - a := by
    rw [UInt64.toNat_sub_of_le _ _ (UInt64.le_iff_toNat_le.2 (by rw [hat, hn']; omega)), hat, hn']
  unfold m_xof_Stream_Read m_xof_Stream_none_s1
  rw [Option.bind_some, if_neg (fo (decide_eq_false (by omega)) (decide_eq_false (by omega)))]
  unfold m_xof_Stream_give_s1
  rw [Option.bind_some]
  dsimp only
  by_cases hz : 0 < m ∧ a = n
  · refine ⟨70, at_, now, hv, by omega, ho, fun _ => ⟨hz.2, by omega⟩, ?_⟩
    rw [if_pos (by
      rw [decide_eq_true (p := 0 < (m : Int)) (by omega), decide_eq_true (p := UInt64.ofInt (n : Int) - at_ = 0) (UInt64.toNat_inj.1 (by rw [hsub]; show n - a = 0; omega))]; rfl)]
    rw [show min m (n - a) = 0 from by omega]
    rfl
  · rw [if_neg (by
      by_cases h0 : 0 < m
      · rw [decide_eq_false (p := UInt64.ofInt (n : Int) - at_ = 0) (fun e => by have := congrArg UInt64.toNat e; rw [hsub] at this; have e0 : (0 : UInt64).toNat = 0 := rfl; omega), Bool.and_false]; decide
      · rw [decide_eq_false (p := 0 < (m : Int)) (by omega), Bool.false_and]; decide)]
    have loop : ∀ M : Nat, a + M ≤ n → ∃ (at' : UInt64) (now' : Vec UInt8 64) (hv' : Int), at'.toNat = a + M ∧ Okw 1 64 R n now' hv' ∧
        m_xof_Stream_Read_j0 R (h, lo, hi, held, 128, 1, d, blk, nk, last, wr, 1, 64, UInt32.ofInt (n : Int), UInt64.ofInt (n : Int), true, key, [], [], at_, now, hv) (M : Int) = some (seg 1 64 R n a M, 0, h, lo, hi, held, 128, 1, d, blk, nk, last, wr, 1, 64, UInt32.ofInt (n : Int), UInt64.ofInt (n : Int), true, key, [], [], at', now', hv') := by
      intro M hM
      unfold m_xof_Stream_Read_j0
      refine rdLoop kdB R (by omega) n hn _ (fun at_ now hv out => (out, 0, h, lo, hi, held, 128, 1, d, blk, nk, last, wr, 1, 64, UInt32.ofInt (n : Int), UInt64.ofInt (n : Int), true, key, [], [], at_, now, hv)) M a hM (fun at_ now hv out ho => ?_) (fun at_ now hv out ho => ?_) M at_ now hv [] (by simp) (by rw [hat]; rfl) rfl ho
      · unfold m_xof_Stream_Read_l0
        dsimp only
        rw [if_pos ho, need_ok (show UInt64.ofInt (64 : Int) ≠ 0 from sne kdB), Option.bind_some]
        rfl
      · unfold m_xof_Stream_Read_l0
        dsimp only
        rw [if_neg ho]
        rfl
    obtain ⟨at', now', hv', q1, q2, q3⟩ := loop (min m (n - a)) (by omega)
    refine ⟨0, at', now', hv', q1, q2, fun q => absurd rfl q, ?_⟩
    by_cases hc : (UInt64.ofInt (n : Int) - at_) < UInt64.ofInt (m : Int)
    · have := UInt64.lt_iff_toNat_lt.1 hc
      rw [hsub, hm'] at this
      rw [if_pos hc, hsub, w64n _ (by omega), show n - a = min m (n - a) from by omega]
      rw [show min m (min m (n - a)) = min m (n - a) from by omega]
      exact q3
    · have : ¬ n - a < m := fun q => hc (UInt64.lt_iff_toNat_lt.2 (by rw [hsub, hm']; exact q))
      rw [if_neg hc]
      have e : min m (n - a) = m := by omega
      rw [e] at q3 ⊢
      exact q3
theorem readNB (hno : m_node_Node_Out 1 d blk nk last wr h lo hi held 128 64 = some (R, 0, h, lo, hi, held, 128, 1, d, blk, nk, last, wr)) : ∃ (e : Int) (at' : UInt64) (now' : Vec UInt8 64) (hv' : Int), at'.toNat = a + min m (n - a) ∧ Okw 1 64 R n now' hv' ∧ (e ≠ 0 → a = n ∧ m ≠ 0) ∧
    m_xof_Stream_Read_s2 1 64 (UInt32.ofInt (n : Int)) (UInt64.ofInt (n : Int)) true key [] [] 1 d blk nk last wr h lo hi held 128 at_ now hv (m : Int) = some (seg 1 64 R n a (min m (n - a)), e, h, lo, hi, held, 128, 1, d, blk, nk, last, wr, 1, 64, UInt32.ofInt (n : Int), UInt64.ofInt (n : Int), true, key, [], [], R, at', now', hv') := by
  have hn' := ofN64 n (by omega)
  have hm' := ofN64 m (by omega)
  have hsub : (UInt64.ofInt (n : Int) - at_).toNat = n - a := by
    rw [UInt64.toNat_sub_of_le _ _ (UInt64.le_iff_toNat_le.2 (by rw [hat, hn']; omega)), hat, hn']
  unfold m_xof_Stream_Read_s2 m_xof_Stream_none
  rw [Option.bind_some, if_neg (fo (decide_eq_false (by omega)) (decide_eq_false (by omega)))]
  rw [giveB key d blk nk wr at_ now hv h lo hi held R hR last hno (UInt32.ofInt (n : Int)) (UInt64.ofInt (n : Int)), Option.bind_some]
  dsimp only
  by_cases hz : 0 < m ∧ a = n
  · refine ⟨70, at_, now, hv, by omega, ho, fun _ => ⟨hz.2, by omega⟩, ?_⟩
    rw [if_pos (by
      rw [decide_eq_true (p := 0 < (m : Int)) (by omega), decide_eq_true (p := UInt64.ofInt (n : Int) - at_ = 0) (UInt64.toNat_inj.1 (by rw [hsub]; show n - a = 0; omega))]; rfl)]
    rw [show min m (n - a) = 0 from by omega]
    rfl
  · rw [if_neg (by
      by_cases h0 : 0 < m
      · rw [decide_eq_false (p := UInt64.ofInt (n : Int) - at_ = 0) (fun e => by have := congrArg UInt64.toNat e; rw [hsub] at this; have e0 : (0 : UInt64).toNat = 0 := rfl; omega), Bool.and_false]; decide
      · rw [decide_eq_false (p := 0 < (m : Int)) (by omega), Bool.false_and]; decide)]
    have loop : ∀ M : Nat, a + M ≤ n → ∃ (at' : UInt64) (now' : Vec UInt8 64) (hv' : Int), at'.toNat = a + M ∧ Okw 1 64 R n now' hv' ∧
        m_xof_Stream_Read_s2_j0 (h, lo, hi, held, 128, 1, d, blk, nk, last, wr, 1, 64, UInt32.ofInt (n : Int), UInt64.ofInt (n : Int), true, key, [], [], R, at_, now, hv) (M : Int) = some (seg 1 64 R n a M, 0, h, lo, hi, held, 128, 1, d, blk, nk, last, wr, 1, 64, UInt32.ofInt (n : Int), UInt64.ofInt (n : Int), true, key, [], [], R, at', now', hv') := by
      intro M hM
      unfold m_xof_Stream_Read_s2_j0
      refine rdLoop kdB R (by omega) n hn _ (fun at_ now hv out => (out, 0, h, lo, hi, held, 128, 1, d, blk, nk, last, wr, 1, 64, UInt32.ofInt (n : Int), UInt64.ofInt (n : Int), true, key, [], [], R, at_, now, hv)) M a hM (fun at_ now hv out ho => ?_) (fun at_ now hv out ho => ?_) M at_ now hv [] (by simp) (by rw [hat]; rfl) rfl ho
      · unfold m_xof_Stream_Read_s2_l0
        dsimp only
        rw [if_pos ho, need_ok (show UInt64.ofInt (64 : Int) ≠ 0 from sne kdB), Option.bind_some]
        rfl
      · unfold m_xof_Stream_Read_s2_l0
        dsimp only
        rw [if_neg ho]
        rfl
    obtain ⟨at', now', hv', q1, q2, q3⟩ := loop (min m (n - a)) (by omega)
    refine ⟨0, at', now', hv', q1, q2, fun q => absurd rfl q, ?_⟩
    by_cases hc : (UInt64.ofInt (n : Int) - at_) < UInt64.ofInt (m : Int)
    · have := UInt64.lt_iff_toNat_lt.1 hc
      rw [hsub, hm'] at this
      rw [if_pos hc, hsub, w64n _ (by omega), show n - a = min m (n - a) from by omega]
      rw [show min m (min m (n - a)) = min m (n - a) from by omega]
      exact q3
    · have : ¬ n - a < m := fun q => hc (UInt64.lt_iff_toNat_lt.2 (by rw [hsub, hm']; exact q))
      rw [if_neg hc]
      have e : min m (n - a) = m := by omega
      rw [e] at q3 ⊢
      exact q3
end
theorem rnoB (d : Int) (blk key data nk : List UInt8) (wr : UInt64) : m_node_Node_Out 1 d blk nk false wr (runB blk key data).1 (runB blk key data).2.1.1 (runB blk key data).2.1.2 (runB blk key data).2.2 128 64 = some (rootB blk key data, 0, (runB blk key data).1, (runB blk key data).2.1.1, (runB blk key data).2.1.2, (runB blk key data).2.2, 128, 1, d, blk, nk, false, wr) :=
  noutB d blk nk false wr _ _ _ _ (run_heldB blk key data)
theorem xtakeB (n : Nat) (hn : 1 ≤ n ∧ n ≤ 3000) (key : List UInt8) (hk : key.length ≤ 64) (data : List UInt8) (hd : data.length ≤ 1048576) (blk : List UInt8)
    (hnw : m_xof_New_w 1 (n : Int) key [] [] = some (Sum.inr (Sum.inl (1, 64, UInt32.ofInt (n : Int), UInt64.ofInt (n : Int), true, key, [], [], 1, 64, blk, key, Stb blk, 0, 0, big.kb key, 128, Vec.rep 64 (0 : UInt8)))))
    (fr : UInt64) (m : Nat) (hm : fr.toNat + m ≤ n) : m_xof_Take 1 (n : Int) key data fr (m : Int) = some (seg 1 64 (rootB blk key data) n fr.toNat m, 0) := by
  have hn' := ofN64 n (by omega)
  obtain ⟨e, at', now', hv', q1, q2, q3, q4⟩ := readB n hn key 64 blk key (0 + UInt64.ofInt ((data.length : Nat) : Int)) (0 + fr) (Vec.rep 64 (0 : UInt8)) (-1) (runB blk key data).1 (runB blk key data).2.1.1 (runB blk key data).2.1.2 (runB blk key data).2.2 (rootB blk key data) (root_lenB blk key data) false fr.toNat m (by simp) (by omega) (by omega) (okw_new _ _ _ _ _)
  have he : e = 0 := by
    by_cases h : e = 0
    · exact h
    · have := q3 h; omega
  subst he
  unfold m_xof_Take
  rw [hnw, Option.bind_some, Sum.elim_inr, Sum.elim_inl]
  dsimp only
  rw [if_neg (fo (decide_eq_false (by omega)) (decide_eq_false (by omega))), if_neg (by
    by_cases h0 : 0 < m
    · rw [decide_eq_false (p := UInt64.ofInt (n : Int) ≤ fr) (fun q => by have := UInt64.le_iff_toNat_le.1 q; omega), Bool.and_false]; decide
    · rw [decide_eq_false (p := 0 < (m : Int)) (by omega), Bool.false_and]; decide)]
  rw [writeB key 64 blk 0 0 (Vec.rep 64 (0 : UInt8)) (-1) hk data hd, Option.bind_some]
  dsimp only
  rw [skipB n key 64 blk key _ (Vec.rep 64 (0 : UInt8)) (-1) _ _ _ _ _ (root_lenB blk key data) false (rnoB 64 blk key data key _) hn _ fr (by omega), Option.bind_some]
  dsimp only
  rw [q4, Option.bind_some, show min m (n - fr.toNat) = m from by omega]
end Go.Sx

