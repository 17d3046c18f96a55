import Derived.Test.YtjddlmbpkkbkoaaGreatQ9
namespace Go.Sx
open Go.RowKit
set_option linter.unusedVariables false
set_option linter.unusedSimpArgs false
def Half.run (H : Half) (blk M : List UInt8) : H.σ × (UInt64 × UInt64) × List UInt8 := absorb (fun h b c => H.f h b c false false) H.B (H.st blk) (0, 0) M
def Half.hash (H : Half) (blk M : List UInt8) (last : Bool) : List UInt8 :=
  H.dig (H.f (H.run blk M).1 (pad H.B (H.run blk M).2.2) (cntb (H.run blk M).2.1 (UInt64.ofNat (H.run blk M).2.2.length)) true last)
theorem Half.hash_len (H : Half) (blk M : List UInt8) (last : Bool) : (H.hash blk M last).length = H.S := H.diglen _
theorem Half.bp (H : Half) : 0 < H.B ∧ H.B ≤ 128 := by rcases H.hk with ⟨_, h, _⟩ | ⟨_, h, _⟩ <;> omega
section
variable (H : Half) (d ky fn dp : Int) (lf : UInt32) (off : UInt64) (xof : UInt32) (nd inn : Int) (salt pers key : List UInt8) (last : Bool) (from_ : Vec UInt64 16) (msg : List UInt8) (cn : UInt64) (blk : List UInt8)
theorem passed_ok (he : m_r02_Encode H.k d ky fn dp lf off xof nd inn salt pers = some (blk, 0)) (hl : blk.length = H.S) (hm : msg.length ≤ 16000000) :
    m_r05_Node_passed H.k d ky fn dp lf off xof nd inn salt pers key last from_ false 0 0 msg cn =
      some (H.emb (H.run blk msg).1, (H.run blk msg).2.1.1, (H.run blk msg).2.1.2, ((msg.length - (H.run blk msg).2.2.length : Nat) : Int), H.k, d, ky, fn, dp, lf, off, xof, nd, inn, last, from_, false, 0, 0, msg, cn) := by
  have hb := H.bp
  unfold m_r05_Node_passed
  rw [H.hfirst d ky fn dp lf off xof nd inn salt pers key last from_ 0 0 msg cn blk he hl]
  simp only [Option.bind_some]
  rw [H.hB]
  simp only [Option.bind_some]
  refine whileO_eq (fun i s => ∃ (h : H.σ) (c : UInt64 × UInt64) (a : Nat), s = (H.emb h, c.1, c.2, (a : Int)) ∧ a ≤ msg.length ∧ a = i * H.B ∧ absorb (fun h b c => H.f h b c false false) H.B h c (msg.drop a) = H.run blk msg) _ msg.length _ ⟨H.st blk, (0, 0), 0, rfl, by omega, by omega, rfl⟩ ?_
  rintro i s ⟨h, c, a, rfl, ha, hai, hr⟩
  unfold m_r05_Node_passed_l0
  simp only []
  have e1 : w64 ((a : Int) + (H.B : Int)) = ((a + H.B : Nat) : Int) := by rw [w64_id (by omega)]; omega
  rw [e1]
  by_cases hlt : a + H.B < msg.length
  · left
    have hil : i ≤ i * H.B := Nat.le_mul_of_pos_right i hb.1
    obtain ⟨o, hadd⟩ := radd' c (UInt64.ofNat H.B)
    refine ⟨by omega, (H.emb (H.f h ((msg.drop a).take H.B) (cntb c (UInt64.ofNat H.B)) false false), (cntb c (UInt64.ofNat H.B)).1, (cntb c (UInt64.ofNat H.B)).2, ((a + H.B : Nat) : Int)), ?_, H.f h ((msg.drop a).take H.B) (cntb c (UInt64.ofNat H.B)) false false, cntb c (UInt64.ofNat H.B), a + H.B, rfl, by omega, by rw [hai, Nat.succ_mul], ?_⟩
    · rw [if_pos (by omega), u64_nat, hadd]
      simp only [Option.bind_some]
      rw [cut_ok msg a H.B (by omega) (by omega) (by omega)]
      simp only [Option.bind_some]
      have hp : pad H.B ((msg.drop a).take H.B) = (msg.drop a).take H.B := by
        unfold pad
        rw [show H.B - ((msg.drop a).take H.B).length = 0 from by simp; omega]
        simp
      rw [hp, H.hin h _ (cntb c (UInt64.ofNat H.B)) false false (by simp; omega)]
      rfl
    · rw [← hr, absorb_go _ H.B h c (msg.drop a) hb.1 (by simp; omega), List.drop_drop]
  · right
    rw [if_neg (by omega)]
    have hst := absorb_stop (fun h b c => H.f h b c false false) H.B h c (msg.drop a) (by simp; omega)
    rw [hst] at hr
    rw [← hr]
    simp only [Option.map_some, Option.some.injEq, Sum.inr.injEq, Prod.mk.injEq, true_and, and_true, List.length_drop]
    omega
theorem Half.held (H : Half) (blk M : List UInt8) : (H.run blk M).2.2.length ≤ H.B ∧ (H.run blk M).2.2 = M.drop (M.length - (H.run blk M).2.2.length) ∧ (H.run blk M).2.2.length ≤ M.length :=
  absorb_end _ H.B H.bp.1 M.length _ _ M (Nat.le_refl _)
theorem rout_ok (he : m_r02_Encode H.k d ky fn dp lf off xof nd inn salt pers = some (blk, 0)) (hl : blk.length = H.S) (hm : msg.length ≤ 16000000) :
    m_r05_Node_Out H.k d ky fn dp lf off xof nd inn salt pers key last from_ false 0 0 msg cn = some (H.hash blk msg last, H.k, d, ky, fn, dp, lf, off, xof, nd, inn, last, from_, false, 0, 0, msg, cn) := by
  have hb := H.bp
  unfold m_r05_Node_Out
  rw [passed_ok H d ky fn dp lf off xof nd inn salt pers key last from_ msg cn blk he hl hm]
  simp only [Option.bind_some]
  obtain ⟨h1, h2, h3⟩ := H.held blk msg
  have e1 : w64 ((msg.length : Int) - ((msg.length - (H.run blk msg).2.2.length : Nat) : Int)) = (((H.run blk msg).2.2.length : Nat) : Int) := by rw [w64_id (by omega)]; omega
  obtain ⟨o, hadd⟩ := radd' (H.run blk msg).2.1 (UInt64.ofNat (H.run blk msg).2.2.length)
  rw [e1, u64_nat, hadd]
  simp only [Option.bind_some]
  rw [H.hB]
  simp only [Option.bind_some]
  rw [cut_ok msg _ H.B (by omega) (by omega) (by omega), ← h2]
  simp only [Option.bind_some]
  rw [List.take_of_length_le h1]
  rw [H.hin _ _ _ true last (pad_len _ _ h1)]
  simp only [Option.bind_some]
  rw [H.hbytes]
  rfl
theorem rwrite_ok (b : List UInt8) (lo hi : UInt64) (old : Bool) (hm : msg.length + b.length ≤ 16000000) :
    m_r05_Node_Write H.k d ky fn dp lf off xof nd inn salt pers key last from_ old lo hi msg cn b = some (H.k, d, ky, fn, dp, lf, off, xof, nd, inn, last, from_, old, lo, hi, msg ++ b, cn + UInt64.ofInt ((b.length : Nat) : Int)) := by
  unfold m_r05_Node_Write
  rw [show ((msg, (0 : Int)) : List UInt8 × Int) = (msg ++ b.take 0, ((0 : Nat) : Int)) from by simp]
  refine whileO_run (fun i => (msg ++ b.take i, (i : Int))) b.length (fun i hi => ?_) ?_
  · unfold m_r05_Node_Write_l0
    simp only []
    rw [if_pos (by omega), geti_nat hi]
    simp only [Option.bind_some]
    rw [app_ok (by simp; omega), w64_succ i (by omega), List.take_succ_eq_append_getElem hi, List.append_assoc]
    rfl
  · unfold m_r05_Node_Write_l0
    simp only []
    rw [if_neg (by omega), List.take_length]
    rfl
end
def Half.ans (H : Half) (blk M : List UInt8) (last : Bool) (out : Int) : List UInt8 × Int := if out < 1 ∨ (H.S : Int) < out then ([], 1) else ((H.hash blk M last).take out.toNat, 0)
def Half.kb (H : Half) (key : List UInt8) : List UInt8 := if key = [] then [] else pad H.B key
theorem Half.kb_len (H : Half) (key : List UInt8) (h : key.length ≤ H.B) : (H.kb key).length ≤ H.B := by
  unfold Half.kb
  split
  · simp
  · rw [pad_len _ _ h]; exact Nat.le_refl _
theorem rhash_ok (H : Half) (d ky fn dp : Int) (lf : UInt32) (off : UInt64) (xof : UInt32) (nd inn : Int) (salt pers key : List UInt8) (last : Bool) (out : Int) (data blk : List UInt8) (hc : m_r02_Check H.k d ky fn dp lf off xof nd inn salt pers = some 0) (he : m_r02_Encode H.k d ky fn dp lf off xof nd inn salt pers = some (blk, 0)) (hl : blk.length = H.S) (hkey : key = [] ∨ (key.length : Int) = ky) (hkl : key.length ≤ H.B) (hd : data.length ≤ 12000000) :
    m_r05_Hash H.k d ky fn dp lf off xof nd inn salt pers key last out data = some (H.ans blk (H.kb key ++ data) last out) := by
  have hb := H.bp
  unfold m_r05_Hash m_r05_New
  rw [hc]
  simp only [Option.bind_some, ne_eq, not_true_eq_false, if_false]
  rw [if_neg (by
    simp only [Bool.and_eq_true, decide_eq_true_eq]
    rintro ⟨h1, h2⟩
    rcases hkey with rfl | h
    · exact h1 rfl
    · exact h2 h)]
  rw [show m_r05_keyed H.k key = some (H.kb key) from keyed_ok H.k H.B H.hB (by omega) key hkl]
  simp only [Option.bind_some, Sum.elim_inr]
  unfold Half.ans
  by_cases h1 : out < 1
  · rw [if_pos h1, if_pos (.inl h1)]
  rw [if_neg h1, H.hS]
  simp only [Option.bind_some]
  by_cases h2 : (H.S : Int) < out
  · rw [if_pos h2, if_pos (.inr h2)]
  rw [if_neg h2, if_neg (by omega)]
  have hkb := H.kb_len key hkl
  rw [rwrite_ok H d ky fn dp lf off xof nd inn salt pers key last (Vec.rep 16 0) (H.kb key) 0 data 0 0 false (by omega)]
  simp only [Option.bind_some]
  rw [rout_ok H d ky fn dp lf off xof nd inn salt pers key last _ _ _ blk he hl (by rw [List.length_append]; omega)]
  simp only [Option.bind_some]
  rw [slc_ok (by rw [H.hash_len]; omega)]
  simp
end Go.Sx

