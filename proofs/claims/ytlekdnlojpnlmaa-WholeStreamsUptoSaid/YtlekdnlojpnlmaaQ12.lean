import Derived.Test.YtlekdnlojpnlmaaQ11
namespace Go.Sx
open Go.RowKit
set_option linter.unusedVariables false
set_option linter.unusedSimpArgs false

theorem beginB (d : Int) (blk key : List UInt8) (hl : blk.length = 64) (hk : key.length ≤ 128) : m_node_Node_begin 1 d blk key false 0 = some (.inl (1, d, blk, key, Stb blk, 0, 0, big.kb key, 128)) := by
  unfold m_node_Node_begin m_node_begun
  rw [if_pos rfl]
  rw [wStart blk hl]
  simp only [Option.bind_some, Sum.elim_inl]
  unfold Half.kb
  by_cases h0 : key = []
  · subst h0; rfl
  · rw [if_pos (by have := List.length_pos_iff.2 h0; omega), if_neg h0]
    have hp := wpad key 128 hk (by omega)
    rw [show ((128 : Nat) : Int) = 128 from rfl] at hp
    rw [show m_node_blockOf 1 = some 128 from rfl]
    simp only [Option.bind_some]
    rw [hp]
    simp only [Option.bind_some]
    have hlen := pad_len 128 key hk
    rw [wwriteB (Stb blk) (0, 0) [] (pad 128 key) (by omega) (by simp)]
    rw [List.nil_append, absorb_stop _ _ _ _ _ (by omega)]
    rfl
theorem wouB (d : Int) (blk key : List UInt8) (last : Bool) (wr : UInt64) (h : Vec UInt64 8) (c : UInt64 × UInt64) (held : List UInt8) (hh : held.length ≤ 128) (out : Int) : ∃ t, m_node_Node_Out 1 d blk key last wr h c.1 c.2 held 128 out = some t ∧ (t.1, t.2.1) = (if out < 1 ∨ (64 : Int) < out then ([], 1) else ((Byb (fB h (pad 128 held) (cntb c (UInt64.ofNat held.length)) true last)).take out.toNat, 0)) := by
  unfold m_node_Node_Out m_node_Node_none
  simp only [Option.bind_some]
  by_cases h1 : out < 1
  · rw [if_pos h1, if_pos (.inl h1)]; exact ⟨_, rfl, rfl⟩
  rw [if_neg h1, show m_node_blockOf 1 = some 128 from rfl]
  simp only [Option.bind_some]
  rw [show w64 (Int.tdiv 128 2) = (64 : Int) from rfl]
  by_cases h2 : (64 : Int) < out
  · rw [if_pos h2, if_pos (.inr h2)]; exact ⟨_, rfl, rfl⟩
  rw [if_neg h2, if_neg (by omega), woutB h c held last hh]
  simp only [Option.bind_some]
  rw [slc_ok (by rw [Byb_len]; omega)]
  simp only [Option.bind_some]
  rw [need_ok (by rw [Byb_len]; omega)]
  exact ⟨_, rfl, by simp⟩
theorem whashB (d ky fn dp : Int) (lf : UInt32) (off : UInt64) (xof : UInt32) (nd inn : Int) (salt pers key : List UInt8) (last : Bool) (out : Int) (data blk : List UInt8) (he : m_param_Encode 1 d ky fn dp lf off xof nd inn salt pers = some (blk, 0)) (hl : blk.length = 64) (hkey : key = [] ∨ (key.length : Int) = ky) (hkl : key.length ≤ 128) (hd : data.length ≤ 12000000) :
    m_node_Hash 1 d ky fn dp lf off xof nd inn salt pers key last out data = some (big.ans blk (big.kb key ++ data) last out) := by
  unfold m_node_Hash m_node_New
  rw [he]
  simp only [Option.bind_some, ne_eq, not_true_eq_false, if_false]
  rw [if_neg (by
    simp only [Bool.and_eq_true, decide_eq_true_eq]
    rintro ⟨h1, h2⟩
    rcases hkey with rfl | h
    · exact h1 rfl
    · exact h2 h)]
  unfold m_node_made
  rw [app_ok (by simp; omega), app_ok (by simp; omega)]
  simp only [Option.bind_some, List.nil_append]
  rw [beginB d blk key hl hkl]
  simp only [Option.bind_some, Sum.elim_inl, Sum.elim_inr]
  have hkb := big.kb_len key hkl
  rw [wwriteB (Stb blk) (0, 0) (big.kb key) data hd hkb]
  simp only [Option.bind_some]
  obtain ⟨h1, h2, h3⟩ := big.held blk (big.kb key ++ data)
  obtain ⟨t, ht1, ht2⟩ := wouB d blk key last 0 (absorb (fun h b c => fB h b c false false) 128 (Stb blk) (0, 0) (big.kb key ++ data)).1 (absorb (fun h b c => fB h b c false false) 128 (Stb blk) (0, 0) (big.kb key ++ data)).2.1 (absorb (fun h b c => fB h b c false false) 128 (Stb blk) (0, 0) (big.kb key ++ data)).2.2 h1 out
  rw [ht1]
  simp only [Option.bind_some, Option.some.injEq]
  exact ht2

theorem beginS (d : Int) (blk key : List UInt8) (hl : blk.length = 32) (hk : key.length ≤ 64) : m_node_Node_begin 2 d blk key false 0 = some (.inr (2, d, blk, key, Sts blk, 0, 0, small.kb key, 64)) := by
  unfold m_node_Node_begin m_node_begun
  rw [if_neg (by decide)]
  rw [swStart blk hl]
  simp only [Option.bind_some, Sum.elim_inr]
  unfold Half.kb
  by_cases h0 : key = []
  · subst h0; rfl
  · rw [if_pos (by have := List.length_pos_iff.2 h0; omega), if_neg h0]
    have hp := wpad key 64 hk (by omega)
    rw [show ((64 : Nat) : Int) = 64 from rfl] at hp
    rw [show m_node_blockOf 2 = some 64 from rfl]
    simp only [Option.bind_some]
    rw [hp]
    simp only [Option.bind_some]
    have hlen := pad_len 64 key hk
    rw [wwriteS (Sts blk) (0, 0) [] (pad 64 key) (by omega) (by simp)]
    rw [List.nil_append, absorb_stop _ _ _ _ _ (by omega)]
    rfl
theorem wouS (d : Int) (blk key : List UInt8) (last : Bool) (wr : UInt64) (h : Vec UInt32 8) (c : UInt64 × UInt64) (held : List UInt8) (hh : held.length ≤ 64) (out : Int) : ∃ t, m_node_Node_Out_s1 2 d blk key last wr h c.1 c.2 held 64 out = some t ∧ (t.1, t.2.1) = (if out < 1 ∨ (32 : Int) < out then ([], 1) else ((Bys (fS h (pad 64 held) (cntb c (UInt64.ofNat held.length)) true last)).take out.toNat, 0)) := by
  unfold m_node_Node_Out_s1 m_node_Node_none_s1
  simp only [Option.bind_some]
  by_cases h1 : out < 1
  · rw [if_pos h1, if_pos (.inl h1)]; exact ⟨_, rfl, rfl⟩
  rw [if_neg h1, show m_node_blockOf 2 = some 64 from rfl]
  simp only [Option.bind_some]
  rw [show w64 (Int.tdiv 64 2) = (32 : Int) from rfl]
  by_cases h2 : (32 : Int) < out
  · rw [if_pos h2, if_pos (.inr h2)]; exact ⟨_, rfl, rfl⟩
  rw [if_neg h2, if_neg (by omega), woutS h c held last hh]
  simp only [Option.bind_some]
  rw [slc_ok (by rw [Bys_len]; omega)]
  simp only [Option.bind_some]
  rw [need_ok (by rw [Bys_len]; omega)]
  exact ⟨_, rfl, by simp⟩
theorem whashS (d ky fn dp : Int) (lf : UInt32) (off : UInt64) (xof : UInt32) (nd inn : Int) (salt pers key : List UInt8) (last : Bool) (out : Int) (data blk : List UInt8) (he : m_param_Encode 2 d ky fn dp lf off xof nd inn salt pers = some (blk, 0)) (hl : blk.length = 32) (hkey : key = [] ∨ (key.length : Int) = ky) (hkl : key.length ≤ 64) (hd : data.length ≤ 12000000) :
    m_node_Hash 2 d ky fn dp lf off xof nd inn salt pers key last out data = some (small.ans blk (small.kb key ++ data) last out) := by
  unfold m_node_Hash m_node_New
  rw [he]
  simp only [Option.bind_some, ne_eq, not_true_eq_false, if_false]
  rw [if_neg (by
    simp only [Bool.and_eq_true, decide_eq_true_eq]
    rintro ⟨h1, h2⟩
    rcases hkey with rfl | h
    · exact h1 rfl
    · exact h2 h)]
  unfold m_node_made
  rw [app_ok (by simp; omega), app_ok (by simp; omega)]
  simp only [Option.bind_some, List.nil_append]
  rw [beginS d blk key hl hkl]
  simp only [Option.bind_some, Sum.elim_inl, Sum.elim_inr]
  have hkb := small.kb_len key hkl
  rw [wwriteS (Sts blk) (0, 0) (small.kb key) data hd hkb]
  simp only [Option.bind_some]
  obtain ⟨h1, h2, h3⟩ := small.held blk (small.kb key ++ data)
  obtain ⟨t, ht1, ht2⟩ := wouS d blk key last 0 (absorb (fun h b c => fS h b c false false) 64 (Sts blk) (0, 0) (small.kb key ++ data)).1 (absorb (fun h b c => fS h b c false false) 64 (Sts blk) (0, 0) (small.kb key ++ data)).2.1 (absorb (fun h b c => fS h b c false false) 64 (Sts blk) (0, 0) (small.kb key ++ data)).2.2 h1 out
  rw [ht1]
  simp only [Option.bind_some, Option.some.injEq]
  exact ht2
end Go.Sx

