import Derived.Test.YtlekdnlojpnlmaaQ10
namespace Go.Sx
open Go.RowKit
set_option linter.unusedVariables false
set_option linter.unusedSimpArgs false
/-! ### the program's node -/
def fB (h : Vec UInt64 8) (b : List UInt8) (c : UInt64 × UInt64) (last node : Bool) : Vec UInt64 8 := Fb h (Wb b) c.1 c.2 last node
def fS (h : Vec UInt32 8) (b : List UInt8) (c : UInt64 × UInt64) (last node : Bool) : Vec UInt32 8 := Fs h (Ws b) c.1 last node

theorem mixBig_ok (h : Vec UInt64 8) (b : List UInt8) (c : UInt64 × UInt64) (last node : Bool) (hb : b.length = 128) : m_node_mixBig h b c.1 c.2 last node = some (fB h b c last node) := by
  unfold m_node_mixBig
  rw [wWords b hb]
  simp only [Option.bind_some]
  rw [wF]
  rfl
theorem wj0B (b : List UInt8) (h : Vec UInt64 8) (lo hi : UInt64) (held : List UInt8) (hb : b.length ≤ 12000000) (hh : held.length ≤ 128) :
    m_node_half_uint64_write_j0 128 b h lo hi held = some (.inl (h, lo, hi, held ++ b.take (min (128 - held.length) b.length), b.drop (min (128 - held.length) b.length))) := by
  unfold m_node_half_uint64_write_j0
  have e1 : w64 ((128 : Int) - ((held.length : Nat) : Int)) = ((128 - held.length : Nat) : Int) := by rw [w64_id (by omega)]; omega
  have e2 : (if w64 ((128 : Int) - ((held.length : Nat) : Int)) < ((b.length : Nat) : Int) then w64 ((128 : Int) - ((held.length : Nat) : Int)) else ((b.length : Nat) : Int)) = ((min (128 - held.length) b.length : Nat) : Int) := by
    rw [e1]; split <;> omega
  rw [e2, slc_ok (by omega)]
  simp only [Option.bind_some, Int.toNat_natCast, Int.toNat_zero, List.drop_zero]
  rw [app_ok (by simp; omega), slc_ok (by omega)]
  simp only [Option.bind_some, Int.toNat_natCast]
  rw [List.take_of_length_le (i := b.length) (Nat.le_refl _)]
theorem wwriteB (h : Vec UInt64 8) (c : UInt64 × UInt64) (held b : List UInt8) (hb : b.length ≤ 12000000) (hh : held.length ≤ 128) :
    m_node_half_uint64_write h c.1 c.2 held 128 b = some ((absorb (fun h b c => fB h b c false false) 128 h c (held ++ b)).1, (absorb (fun h b c => fB h b c false false) 128 h c (held ++ b)).2.1.1, (absorb (fun h b c => fB h b c false false) 128 h c (held ++ b)).2.1.2, (absorb (fun h b c => fB h b c false false) 128 h c (held ++ b)).2.2, 128) := by
  unfold m_node_half_uint64_write
  refine whileO_eq (fun i s => ∃ (h' : Vec UInt64 8) (c' : UInt64 × UInt64) (held' b' : List UInt8), s = (h', c'.1, c'.2, held', b') ∧ held'.length ≤ 128 ∧ b'.length + i ≤ b.length ∧ absorb (fun h b c => fB h b c false false) 128 h' c' (held' ++ b') = absorb (fun h b c => fB h b c false false) 128 h c (held ++ b)) _ b.length _ ⟨h, c, held, b, rfl, hh, by omega, rfl⟩ ?_
  rintro i s ⟨h', c', held', b', rfl, hh', hbl, hr⟩
  rw [← hr]
  unfold m_node_half_uint64_write_l0
  simp only []
  by_cases h0 : b'.length = 0
  · right
    obtain rfl := List.length_eq_zero_iff.1 h0
    rw [if_neg (by simp), List.append_nil, absorb_stop _ _ _ _ _ hh']
    rfl
  · left
    refine ⟨by omega, ?_⟩
    rw [if_pos (by omega)]
    by_cases hf : held'.length = 128
    · rw [if_pos (by omega)]
      obtain ⟨o, hadd⟩ := wadd c' (UInt64.ofNat 128)
      have e3 : UInt64.ofInt 128 = UInt64.ofNat 128 := rfl
      rw [e3, hadd]
      simp only [Option.bind_some]
      rw [mixBig_ok h' held' (cntb c' (UInt64.ofNat 128)) false false hf]
      simp only [Option.bind_some]
      rw [slc_ok (by omega)]
      simp only [Option.bind_some, Int.toNat_zero, List.take_zero, List.drop_nil]
      rw [wj0B b' _ _ _ [] (by omega) (by simp)]
      refine ⟨_, rfl, _, cntb c' (UInt64.ofNat 128), _, _, rfl, by simp; omega, by simp; omega, ?_⟩
      rw [absorb_go _ 128 h' c' (held' ++ b') (by omega) (by simp; omega)]
      rw [show (held' ++ b').take 128 = held' from by rw [List.take_append_of_le_length (by omega), List.take_of_length_le (by omega)], show (held' ++ b').drop 128 = b' from by rw [← hf, List.drop_left]]
      rw [List.nil_append, List.take_append_drop]
    · rw [if_neg (by omega), wj0B b' _ _ _ held' (by omega) hh']
      refine ⟨_, rfl, _, c', _, _, rfl, by simp; omega, by simp; omega, ?_⟩
      rw [List.append_assoc, List.take_append_drop]
theorem woutB (h : Vec UInt64 8) (c : UInt64 × UInt64) (held : List UInt8) (node : Bool) (hh : held.length ≤ 128) :
    m_node_half_uint64_out h c.1 c.2 held 128 node = some (Byb (fB h (pad 128 held) (cntb c (UInt64.ofNat held.length)) true node), h, c.1, c.2, held, 128) := by
  unfold m_node_half_uint64_out m_node_half_uint64_out_j0
  obtain ⟨o, hadd⟩ := wadd c (UInt64.ofNat held.length)
  rw [u64_nat, hadd]
  simp only [Option.bind_some]
  have := wpad held 128 hh (by omega)
  rw [show ((128 : Nat) : Int) = 128 from rfl] at this
  rw [this]
  simp only [Option.bind_some]
  rw [mixBig_ok h _ (cntb c (UInt64.ofNat held.length)) true node (pad_len _ _ hh)]
  simp only [Option.bind_some]
  rw [wBytes]
  rfl

theorem mixSmall_ok (h : Vec UInt32 8) (b : List UInt8) (c : UInt64 × UInt64) (last node : Bool) (hb : b.length = 64) : m_node_mixSmall h b c.1 c.2 last node = some (fS h b c last node) := by
  unfold m_node_mixSmall
  rw [swWords b hb]
  simp only [Option.bind_some]
  rw [wFs]
  rfl
theorem wj0S (b : List UInt8) (h : Vec UInt32 8) (lo hi : UInt64) (held : List UInt8) (hb : b.length ≤ 12000000) (hh : held.length ≤ 64) :
    m_node_half_uint32_write_j0 64 b h lo hi held = some (.inl (h, lo, hi, held ++ b.take (min (64 - held.length) b.length), b.drop (min (64 - held.length) b.length))) := by
  unfold m_node_half_uint32_write_j0
  have e1 : w64 ((64 : Int) - ((held.length : Nat) : Int)) = ((64 - held.length : Nat) : Int) := by rw [w64_id (by omega)]; omega
  have e2 : (if w64 ((64 : Int) - ((held.length : Nat) : Int)) < ((b.length : Nat) : Int) then w64 ((64 : Int) - ((held.length : Nat) : Int)) else ((b.length : Nat) : Int)) = ((min (64 - held.length) b.length : Nat) : Int) := by
    rw [e1]; split <;> omega
  rw [e2, slc_ok (by omega)]
  simp only [Option.bind_some, Int.toNat_natCast, Int.toNat_zero, List.drop_zero]
  rw [app_ok (by simp; omega), slc_ok (by omega)]
  simp only [Option.bind_some, Int.toNat_natCast]
  rw [List.take_of_length_le (i := b.length) (Nat.le_refl _)]
theorem wwriteS (h : Vec UInt32 8) (c : UInt64 × UInt64) (held b : List UInt8) (hb : b.length ≤ 12000000) (hh : held.length ≤ 64) :
    m_node_half_uint32_write h c.1 c.2 held 64 b = some ((absorb (fun h b c => fS h b c false false) 64 h c (held ++ b)).1, (absorb (fun h b c => fS h b c false false) 64 h c (held ++ b)).2.1.1, (absorb (fun h b c => fS h b c false false) 64 h c (held ++ b)).2.1.2, (absorb (fun h b c => fS h b c false false) 64 h c (held ++ b)).2.2, 64) := by
  unfold m_node_half_uint32_write
  refine whileO_eq (fun i s => ∃ (h' : Vec UInt32 8) (c' : UInt64 × UInt64) (held' b' : List UInt8), s = (h', c'.1, c'.2, held', b') ∧ held'.length ≤ 64 ∧ b'.length + i ≤ b.length ∧ absorb (fun h b c => fS h b c false false) 64 h' c' (held' ++ b') = absorb (fun h b c => fS h b c false false) 64 h c (held ++ b)) _ b.length _ ⟨h, c, held, b, rfl, hh, by omega, rfl⟩ ?_
  rintro i s ⟨h', c', held', b', rfl, hh', hbl, hr⟩
  rw [← hr]
  unfold m_node_half_uint32_write_l0
  simp only []
  by_cases h0 : b'.length = 0
  · right
    obtain rfl := List.length_eq_zero_iff.1 h0
    rw [if_neg (by simp), List.append_nil, absorb_stop _ _ _ _ _ hh']
    rfl
  · left
    refine ⟨by omega, ?_⟩
    rw [if_pos (by omega)]
    by_cases hf : held'.length = 64
    · rw [if_pos (by omega)]
      obtain ⟨o, hadd⟩ := wadd c' (UInt64.ofNat 64)
      have e3 : UInt64.ofInt 64 = UInt64.ofNat 64 := rfl
      rw [e3, hadd]
      simp only [Option.bind_some]
      rw [mixSmall_ok h' held' (cntb c' (UInt64.ofNat 64)) false false hf]
      simp only [Option.bind_some]
      rw [slc_ok (by omega)]
      simp only [Option.bind_some, Int.toNat_zero, List.take_zero, List.drop_nil]
      rw [wj0S b' _ _ _ [] (by omega) (by simp)]
      refine ⟨_, rfl, _, cntb c' (UInt64.ofNat 64), _, _, rfl, by simp; omega, by simp; omega, ?_⟩
      rw [absorb_go _ 64 h' c' (held' ++ b') (by omega) (by simp; omega)]
      rw [show (held' ++ b').take 64 = held' from by rw [List.take_append_of_le_length (by omega), List.take_of_length_le (by omega)], show (held' ++ b').drop 64 = b' from by rw [← hf, List.drop_left]]
      rw [List.nil_append, List.take_append_drop]
    · rw [if_neg (by omega), wj0S b' _ _ _ held' (by omega) hh']
      refine ⟨_, rfl, _, c', _, _, rfl, by simp; omega, by simp; omega, ?_⟩
      rw [List.append_assoc, List.take_append_drop]
theorem woutS (h : Vec UInt32 8) (c : UInt64 × UInt64) (held : List UInt8) (node : Bool) (hh : held.length ≤ 64) :
    m_node_half_uint32_out h c.1 c.2 held 64 node = some (Bys (fS h (pad 64 held) (cntb c (UInt64.ofNat held.length)) true node), h, c.1, c.2, held, 64) := by
  unfold m_node_half_uint32_out m_node_half_uint32_out_j0
  obtain ⟨o, hadd⟩ := wadd c (UInt64.ofNat held.length)
  rw [u64_nat, hadd]
  simp only [Option.bind_some]
  have := wpad held 64 hh (by omega)
  rw [show ((64 : Nat) : Int) = 64 from rfl] at this
  rw [this]
  simp only [Option.bind_some]
  rw [mixSmall_ok h _ (cntb c (UInt64.ofNat held.length)) true node (pad_len _ _ hh)]
  simp only [Option.bind_some]
  rw [swBytes]
  rfl
end Go.Sx

