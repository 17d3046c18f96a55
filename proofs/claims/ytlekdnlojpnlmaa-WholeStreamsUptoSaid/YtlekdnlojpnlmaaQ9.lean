import Derived.Test.YtlekdnlojpnlmaaQ8
namespace Go.Sx
open Go.RowKit
set_option linter.unusedVariables false
set_option linter.unusedSimpArgs false
/-- one of the two hashes -/
structure Half where
  σ : Type
  k : Int
  B : Nat
  S : Nat
  f : σ → List UInt8 → UInt64 × UInt64 → Bool → Bool → σ
  st : List UInt8 → σ
  dig : σ → List UInt8
  emb : σ → Vec UInt64 16
  hk : k = 1 ∧ B = 128 ∧ S = 64 ∨ k = 2 ∧ B = 64 ∧ S = 32
  diglen : ∀ h, (dig h).length = S
  hin : ∀ h b (c : UInt64 × UInt64) last node, b.length = B → m_r05_in k (emb h) b c.1 c.2 last node = some (emb (f h b c last node))
  hbytes : ∀ h, m_r05_bytes k (emb h) = some (dig h)
  hfirst : ∀ (d ky fn dp : Int) (lf : UInt32) (off : UInt64) (xof : UInt32) (nd inn : Int) (salt pers key : List UInt8) (last : Bool) (from_ : Vec UInt64 16) (lo hi : UInt64) (msg : List UInt8) (cn : UInt64) (blk : List UInt8), m_r02_Encode k d ky fn dp lf off xof nd inn salt pers = some (blk, 0) → blk.length = S →
    m_r05_Node_first k d ky fn dp lf off xof nd inn salt pers key last from_ false lo hi msg cn = some (emb (st blk), k, d, ky, fn, dp, lf, off, xof, nd, inn, last, from_, false, lo, hi, msg, cn)
/-! ### the big one -/
def embB (h : Vec UInt64 8) : Vec UInt64 16 := ⟨h.l ++ List.replicate 8 0, by simp [h.h]⟩
theorem embB_g (h : Vec UInt64 8) (i : Nat) (hi : i < 8) : (embB h).g i = h.g i := by
  have hl : i < h.l.length := by rw [h.h]; exact hi
  simp [Vec.g, embB, List.getD_eq_getElem?_getD, List.getElem?_append_left hl]
theorem embB_in (h r : Vec UInt64 8) : (List.range 8).foldl (fun v (i : Nat) => vst v i (r.g i)) (embB h) = embB r := by
  obtain ⟨a, b, c, d, e, f, g, q, rfl⟩ := vec8 (v := h)
  obtain ⟨a', b', c', d', e', f', g', q', rfl⟩ := vec8 (v := r)
  rfl
theorem embB_out (h : Vec UInt64 8) : (List.range 8).foldl (fun v (i : Nat) => vst v i ((embB h).g i)) (Vec.rep 8 (0 : UInt64)) = h := by
  obtain ⟨a, b, c, d, e, f, g, q, rfl⟩ := vec8 (v := h)
  rfl
theorem embB_0 (r : Vec UInt64 8) : (List.range 8).foldl (fun v (i : Nat) => vst v i (r.g i)) (Vec.rep 16 (0 : UInt64)) = embB r := by
  obtain ⟨a', b', c', d', e', f', g', q', rfl⟩ := vec8 (v := r)
  rfl
theorem rin1 (h : Vec UInt64 8) (b : List UInt8) (c : UInt64 × UInt64) (last node : Bool) (hb : b.length = 128) : m_r05_in 1 (embB h) b c.1 c.2 last node = some (embB (Fb h (Wb b) c.1 c.2 last node)) := by
  unfold m_r05_in
  rw [if_pos rfl]
  refine loopN _ 8 (fun v (i : Nat) => vst v i ((embB h).g i)) _ _ (fun v i hi => ?_) ?_
  · unfold m_r05_in_l0
    simp only []
    rw [if_pos (by omega), geti_v _ _ (by omega), geti_v _ _ hi, w64_succ i (by omega)]
    rfl
  · rw [embB_out]
    unfold m_r05_in_l0
    simp only []
    rw [if_neg (by omega), rWords b hb]
    simp only [Option.bind_some]
    rw [rF]
    simp only [Option.bind_some]
    rw [show whileO (m_r05_in_l1 (Fb h (Wb b) c.1 c.2 last node)) (embB h, 0) = some (embB (Fb h (Wb b) c.1 c.2 last node)) from ?_]
    · rfl
    refine loopN _ 8 (fun v (i : Nat) => vst v i ((Fb h (Wb b) c.1 c.2 last node).g i)) _ _ (fun v i hi => ?_) ?_
    · unfold m_r05_in_l1
      simp only []
      rw [if_pos (by omega), geti_v _ _ hi, geti_v _ _ (by omega), w64_succ i (by omega)]
      rfl
    · rw [embB_in]
      unfold m_r05_in_l1
      simp only []
      rw [if_neg (by omega)]
      rfl
theorem rbytes1 (h : Vec UInt64 8) : m_r05_bytes 1 (embB h) = some (Byb h) := by
  unfold m_r05_bytes
  refine whileO_run (fun i => ((List.range i).foldl (fun b i => b ++ st8 8 (h.g i)) [], (i : Int))) 8 (fun i hi => ?_) rfl
  unfold m_r05_bytes_l0
  simp only []
  have hs := rstore (h.g i) 8 (by omega)
  rw [if_pos (by omega), geti_v _ _ (by omega), embB_g h i hi, w64_succ i (by omega)]
  simp only [Option.bind_some]
  rw [show m_r05_Full 1 = some 64 from rfl]
  simp only [Option.bind_some]
  rw [show w64 (Int.tdiv 64 8) = ((8 : Nat) : Int) from rfl, hs]
  simp only [Option.bind_some]
  have hq : (List.range (i + 1)).foldl (fun b i => b ++ st8 8 (h.g i)) [] = (List.range i).foldl (fun b i => b ++ st8 8 (h.g i)) [] ++ st8 8 (h.g i) := by rw [List.range_succ, List.foldl_append]; rfl
  rw [app_ok (by rw [by_len _ 8 (fun i => st8_len 8 _)]; simp; omega), hq]
  rfl
theorem rfirst1 (d ky fn dp : Int) (lf : UInt32) (off : UInt64) (xof : UInt32) (nd inn : Int) (salt pers key : List UInt8) (last : Bool) (from_ : Vec UInt64 16) (lo hi : UInt64) (msg : List UInt8) (cn : UInt64) (blk : List UInt8) (he : m_r02_Encode 1 d ky fn dp lf off xof nd inn salt pers = some (blk, 0)) (hl : blk.length = 64) :
    m_r05_Node_first 1 d ky fn dp lf off xof nd inn salt pers key last from_ false lo hi msg cn = some (embB (Stb blk), 1, d, ky, fn, dp, lf, off, xof, nd, inn, last, from_, false, lo, hi, msg, cn) := by
  unfold m_r05_Node_first
  rw [if_neg (by decide), he]
  simp only [Option.bind_some]
  rw [if_pos trivial, rStart blk hl]
  simp only [Option.bind_some]
  refine loopN _ 8 (fun v (i : Nat) => vst v i ((Stb blk).g i)) _ _ (fun v i hi => ?_) ?_
  · unfold m_r05_Node_first_l0
    simp only []
    rw [if_pos (by omega), geti_v _ _ hi, geti_v _ _ (by omega), w64_succ i (by omega)]
    rfl
  · rw [embB_0]
    unfold m_r05_Node_first_l0
    simp only []
    rw [if_neg (by omega)]
    rfl
def big : Half := ⟨Vec UInt64 8, 1, 128, 64, fun h b c last node => Fb h (Wb b) c.1 c.2 last node, Stb, Byb, embB, .inl ⟨rfl, rfl, rfl⟩, Byb_len, rin1, rbytes1, rfirst1⟩

/-! ### the small one -/
def up (x : UInt32) : UInt64 := UInt64.ofNat x.toNat
theorem down_up (x : UInt32) : UInt32.ofNat (up x).toNat = x := by
  have := x.toNat_lt
  unfold up
  rw [← UInt32.toNat_inj]
  simp only [UInt32.toNat_ofNat', UInt64.toNat_ofNat']
  omega
def embS (h : Vec UInt32 8) : Vec UInt64 16 := ⟨h.l.map up ++ List.replicate 8 0, by simp [h.h]⟩
theorem embS_g (h : Vec UInt32 8) (i : Nat) (hi : i < 8) : (embS h).g i = up (h.g i) := by
  obtain ⟨a, b, c, d, e, f, g, q, rfl⟩ := vec8 (v := h)
  match i, hi with
  | 0, _ => rfl
  | 1, _ => rfl
  | 2, _ => rfl
  | 3, _ => rfl
  | 4, _ => rfl
  | 5, _ => rfl
  | 6, _ => rfl
  | 7, _ => rfl
theorem embS_in (h r : Vec UInt32 8) : (List.range 8).foldl (fun v (i : Nat) => vst v i (up (r.g i))) (embS h) = embS r := by
  obtain ⟨a, b, c, d, e, f, g, q, rfl⟩ := vec8 (v := h)
  obtain ⟨a', b', c', d', e', f', g', q', rfl⟩ := vec8 (v := r)
  rfl
theorem embS_out (h : Vec UInt32 8) : (List.range 8).foldl (fun v (i : Nat) => vst v i (UInt32.ofNat ((embS h).g i).toNat)) (Vec.rep 8 (0 : UInt32)) = h := by
  obtain ⟨a, b, c, d, e, f, g, q, rfl⟩ := vec8 (v := h)
  show (⟨[UInt32.ofNat (up a).toNat, UInt32.ofNat (up b).toNat, UInt32.ofNat (up c).toNat, UInt32.ofNat (up d).toNat, UInt32.ofNat (up e).toNat, UInt32.ofNat (up f).toNat, UInt32.ofNat (up g).toNat, UInt32.ofNat (up q).toNat], rfl⟩ : Vec UInt32 8) = _
  apply Vec.ext
  simp only [down_up]
theorem embS_0 (r : Vec UInt32 8) : (List.range 8).foldl (fun v (i : Nat) => vst v i (up (r.g i))) (Vec.rep 16 (0 : UInt64)) = embS r := by
  obtain ⟨a', b', c', d', e', f', g', q', rfl⟩ := vec8 (v := r)
  rfl
theorem rin2 (h : Vec UInt32 8) (b : List UInt8) (c : UInt64 × UInt64) (last node : Bool) (hb : b.length = 64) : m_r05_in 2 (embS h) b c.1 c.2 last node = some (embS (Fs h (Ws b) c.1 last node)) := by
  unfold m_r05_in
  rw [if_neg (by decide)]
  refine loopN _ 8 (fun v (i : Nat) => vst v i (UInt32.ofNat ((embS h).g i).toNat)) _ _ (fun v i hi => ?_) ?_
  · unfold m_r05_in_l2
    simp only []
    rw [if_pos (by omega), geti_v _ _ (by omega), geti_v _ _ hi, w64_succ i (by omega)]
    rfl
  · rw [embS_out]
    unfold m_r05_in_l2
    simp only []
    rw [if_neg (by omega), srWords b hb]
    simp only [Option.bind_some]
    rw [rFs]
    simp only [Option.bind_some]
    rw [show whileO (m_r05_in_l3 (Fs h (Ws b) c.1 last node)) (embS h, 0) = some (embS (Fs h (Ws b) c.1 last node)) from ?_]
    · rfl
    refine loopN _ 8 (fun v (i : Nat) => vst v i (up ((Fs h (Ws b) c.1 last node).g i))) _ _ (fun v i hi => ?_) ?_
    · unfold m_r05_in_l3
      simp only []
      rw [if_pos (by omega), geti_v _ _ hi, geti_v _ _ (by omega), w64_succ i (by omega)]
      rfl
    · rw [embS_in]
      unfold m_r05_in_l3
      simp only []
      rw [if_neg (by omega)]
      rfl
theorem rbytes2 (h : Vec UInt32 8) : m_r05_bytes 2 (embS h) = some (Bys h) := by
  unfold m_r05_bytes
  refine whileO_run (fun i => ((List.range i).foldl (fun b i => b ++ st8 4 (UInt64.ofNat (h.g i).toNat)) [], (i : Int))) 8 (fun i hi => ?_) rfl
  unfold m_r05_bytes_l0
  simp only []
  have hs := rstore (up (h.g i)) 4 (by omega)
  rw [if_pos (by omega), geti_v _ _ (by omega), embS_g h i hi, w64_succ i (by omega)]
  simp only [Option.bind_some]
  rw [show m_r05_Full 2 = some 32 from rfl]
  simp only [Option.bind_some]
  rw [show w64 (Int.tdiv 32 8) = ((4 : Nat) : Int) from rfl, hs]
  simp only [Option.bind_some]
  have hq : (List.range (i + 1)).foldl (fun b i => b ++ st8 4 (UInt64.ofNat (h.g i).toNat)) [] = (List.range i).foldl (fun b i => b ++ st8 4 (UInt64.ofNat (h.g i).toNat)) [] ++ st8 4 (UInt64.ofNat (h.g i).toNat) := by rw [List.range_succ, List.foldl_append]; rfl
  rw [app_ok (by rw [by_len _ 4 (fun i => st8_len 4 _)]; simp; omega), hq]
  rfl
theorem rfirst2 (d ky fn dp : Int) (lf : UInt32) (off : UInt64) (xof : UInt32) (nd inn : Int) (salt pers key : List UInt8) (last : Bool) (from_ : Vec UInt64 16) (lo hi : UInt64) (msg : List UInt8) (cn : UInt64) (blk : List UInt8) (he : m_r02_Encode 2 d ky fn dp lf off xof nd inn salt pers = some (blk, 0)) (hl : blk.length = 32) :
    m_r05_Node_first 2 d ky fn dp lf off xof nd inn salt pers key last from_ false lo hi msg cn = some (embS (Sts blk), 2, d, ky, fn, dp, lf, off, xof, nd, inn, last, from_, false, lo, hi, msg, cn) := by
  unfold m_r05_Node_first
  rw [if_neg (by decide), he]
  simp only [Option.bind_some]
  rw [if_neg (by decide), srStart blk hl]
  simp only [Option.bind_some]
  refine loopN _ 8 (fun v (i : Nat) => vst v i (up ((Sts blk).g i))) _ _ (fun v i hi => ?_) ?_
  · unfold m_r05_Node_first_l1
    simp only []
    rw [if_pos (by omega), geti_v _ _ hi, geti_v _ _ (by omega), w64_succ i (by omega)]
    rfl
  · rw [embS_0]
    unfold m_r05_Node_first_l1
    simp only []
    rw [if_neg (by omega)]
    rfl
def small : Half := ⟨Vec UInt32 8, 2, 64, 32, fun h b c last node => Fs h (Ws b) c.1 last node, Sts, Bys, embS, .inr ⟨rfl, rfl, rfl⟩, Bys_len, rin2, rbytes2, rfirst2⟩
end Go.Sx

