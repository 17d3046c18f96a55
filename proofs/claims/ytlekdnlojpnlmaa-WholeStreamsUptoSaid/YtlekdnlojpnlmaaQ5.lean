import Derived.Test.YtlekdnlojpnlmaaQ4
namespace Go.Sx
open Go.RowKit
set_option linter.unusedVariables false
set_option linter.unusedSimpArgs false
def wd32 (b : List UInt8) (i : Nat) : UInt32 := UInt32.ofNat (leN ((b.drop (4 * i)).take 4))
theorem mul4 (i : Nat) (h : i < 100) : w64 (4 * (i : Int)) = ((4 * i : Nat) : Int) := by rw [w64_id (by omega)]; omega
theorem wload4 (b : List UInt8) (i : Nat) (hb : b.length ≤ 33554432) (hi : 4 * i + 4 ≤ b.length) : m_word_Load32 b ((4 * i : Nat) : Int) = some (wd32 b i, 0) := by
  rw [load32 b hb _ (by omega), if_neg (by omega), if_neg (by omega), Int.toNat_natCast]
  rfl
theorem rload4 (b : List UInt8) (i : Nat) (hb : b.length ≤ 33554432) (hi : 4 * i + 4 ≤ b.length) : m_r04_load b ((4 * i : Nat) : Int) = some (wd32 b i) := by
  unfold m_r04_load
  have k1 : w64 (((4 * i : Nat) : Int) + 1) = ((4 * i + 1 : Nat) : Int) := by rw [w64_id (by omega)]; omega
  have k2 : w64 (((4 * i : Nat) : Int) + 2) = ((4 * i + 2 : Nat) : Int) := by rw [w64_id (by omega)]; omega
  have k3 : w64 (((4 * i : Nat) : Int) + 3) = ((4 * i + 3 : Nat) : Int) := by rw [w64_id (by omega)]; omega
  rw [k1, k2, k3, geti_nat (by omega : 4 * i < b.length), geti_nat (by omega : 4 * i + 1 < b.length), geti_nat (by omega : 4 * i + 2 < b.length), geti_nat (by omega : 4 * i + 3 < b.length)]
  simp only [Option.bind_some, Option.some.injEq]
  have hd : (b.drop (4 * i)).take 4 = [b[4 * i], b[4 * i + 1], b[4 * i + 2], b[4 * i + 3]] := by
    rw [List.drop_eq_getElem_cons (by omega), List.drop_eq_getElem_cons (by omega), List.drop_eq_getElem_cons (by omega), List.drop_eq_getElem_cons (by omega)]
    rfl
  unfold wd32
  rw [hd]
  generalize b[4 * i] = x0
  generalize b[4 * i + 1] = x1
  generalize b[4 * i + 2] = x2
  generalize b[4 * i + 3] = x3
  have h0 := x0.toNat_lt
  have h1 := x1.toNat_lt
  have h2 := x2.toNat_lt
  have h3 := x3.toNat_lt
  have sh : ∀ (x : UInt32) (k : Nat), (shl32 x k).toNat = x.toNat * 2 ^ k % 2 ^ 32 := by
    intro x k
    show (x.toBitVec <<< k).toNat = _
    rw [BitVec.toNat_shiftLeft, Nat.shiftLeft_eq]; rfl
  rw [← UInt32.toNat_inj]
  simp only [UInt32.toNat_add, sh, UInt32.toNat_ofNat', leN]
  rw [show (8 : UInt64).toNat = 8 from rfl, show (16 : UInt64).toNat = 16 from rfl, show (24 : UInt64).toNat = 24 from rfl]
  omega
def Ws (b : List UInt8) : Vec UInt32 16 := (List.range 16).foldl (fun m (i : Nat) => vst m i (wd32 b i)) (Vec.rep 16 0)
theorem foldl_set {n : Nat} (x : Nat → UInt32) (k : Nat) (v : Vec UInt32 n) : ((List.range k).foldl (fun m (i : Nat) => vst m i (x i)) v).l = (List.range k).foldl (fun l (i : Nat) => l.set i (x i)) v.l := by
  induction k with
  | zero => rfl
  | succ k ih =>
    rw [List.range_succ, List.foldl_append, List.foldl_append]
    simp only [List.foldl_cons, List.foldl_nil]
    rw [← ih]
    rfl
theorem set_len (x : Nat → UInt32) (k : Nat) (l : List UInt32) : ((List.range k).foldl (fun l (i : Nat) => l.set i (x i)) l).length = l.length := by
  induction k with
  | zero => rfl
  | succ k ih => rw [List.range_succ, List.foldl_append]; simp only [List.foldl_cons, List.foldl_nil, List.length_set, ih]
theorem swords {n : Nat} (b : List UInt8) (hn : n ≤ 16) (hb : b.length = 4 * n) (v : Vec UInt32 n) : m_mixs_words v.l b = some ((List.range n).foldl (fun m (i : Nat) => vst m i (wd32 b i)) v).l := by
  unfold m_mixs_words
  rw [foldl_set]
  refine whileO_run (fun i => ((List.range i).foldl (fun l (i : Nat) => l.set i (wd32 b i)) v.l, (i : Int))) n (fun i hi => ?_) ?_
  · unfold m_mixs_words_l0
    simp only []
    rw [v.h, if_pos (by omega), mul4 i (by omega), wload4 b i (by omega) (by omega), geti_nat (by rw [set_len, v.h]; exact hi), w64_succ i (by omega), List.range_succ, List.foldl_append]
    rfl
  · unfold m_mixs_words_l0
    simp only []
    rw [v.h, if_neg (by omega)]
    rfl
theorem vof {n : Nat} (v : Vec UInt32 n) : Vec.of n v.l = v := Vec.ext (Vec.of_l v.h)
theorem swWords (b : List UInt8) (hb : b.length = 64) : m_mixs_Words b = some (Ws b, 0) := by
  unfold m_mixs_Words m_mixs_right
  rw [if_neg (by omega), if_neg (by omega)]
  simp only [Option.bind_some, ne_eq, not_true_eq_false, if_false]
  rw [swords b (by omega) (by omega) (Vec.rep 16 0)]
  simp only [Option.bind_some]
  rw [vof]
  rfl
theorem srWords (b : List UInt8) (hb : b.length = 64) : m_r04_Words b = some (Ws b, 0) := by
  unfold m_r04_Words
  rw [if_neg (by omega), if_neg (by omega)]
  refine loopN _ 16 (fun m (i : Nat) => vst m i (wd32 b i)) _ _ (fun v i hi => ?_) (by unfold m_r04_Words_l0; simp only []; rw [if_neg (by omega)]; rfl)
  unfold m_r04_Words_l0
  simp only []
  rw [if_pos (by omega), mul4 i (by omega), rload4 b i (by omega) (by omega), geti_v _ _ hi, w64_succ i (by omega)]
  rfl
def Sts (b : List UInt8) : Vec UInt32 8 := (List.range 8).foldl (fun h (i : Nat) => vst h i (h.g i ^^^ wd32 b i)) ⟨ivs, rfl⟩
theorem srStart (b : List UInt8) (hb : b.length = 32) : m_r04_Start b = some (Sts b, 0) := by
  unfold m_r04_Start m_r04_IV
  rw [if_neg (by omega), if_neg (by omega)]
  simp only [Option.bind_some]
  refine loopN _ 8 (fun h (i : Nat) => vst h i (h.g i ^^^ wd32 b i)) _ _ (fun v i hi => ?_) (by unfold m_r04_Start_l0; simp only []; rw [if_neg (by omega)]; rfl)
  unfold m_r04_Start_l0
  simp only []
  rw [if_pos (by omega), mul4 i (by omega), rload4 b i (by omega) (by omega), geti_v _ _ hi, w64_succ i (by omega)]
  rfl
theorem w8at (x : Nat → UInt32) : ∀ i : Nat, i < 8 → ((List.range 8).foldl (fun m (i : Nat) => vst m i (x i)) (Vec.rep 8 (0 : UInt32))).g i = x i := by
  intro i hi
  match i, hi with
  | 0, _ => rfl
  | 1, _ => rfl
  | 2, _ => rfl
  | 3, _ => rfl
  | 4, _ => rfl
  | 5, _ => rfl
  | 6, _ => rfl
  | 7, _ => rfl
theorem swStart (b : List UInt8) (hb : b.length = 32) : m_mixs_Start b = some (Sts b, 0) := by
  unfold m_mixs_Start m_mixs_right
  rw [if_neg (by omega), if_neg (by omega)]
  simp only [Option.bind_some, ne_eq, not_true_eq_false, if_false]
  rw [swords b (by omega) (by omega) (Vec.rep 8 0)]
  unfold m_mixs_IV
  simp only [Option.bind_some]
  refine loopN _ 8 (fun h (i : Nat) => vst h i (h.g i ^^^ wd32 b i)) _ _ (fun v i hi => ?_) (by unfold m_mixs_Start_l0; simp only []; rw [if_neg (by omega)]; rfl)
  unfold m_mixs_Start_l0
  simp only []
  rw [vof, if_pos (by omega), geti_v _ _ hi, geti_v _ _ hi, w8at _ i hi, w64_succ i (by omega)]
  rfl
def Bys (h : Vec UInt32 8) : List UInt8 := (List.range 8).foldl (fun b i => b ++ st8 4 (UInt64.ofNat (h.g i).toNat)) []
theorem Bys_len (h : Vec UInt32 8) : (Bys h).length = 32 := by unfold Bys; rw [by_len _ 4 (fun i => st8_len 4 _)]
theorem four_bytes (w : UInt32) : [UInt8.ofNat w.toNat, UInt8.ofNat (shr32 w ((8 : UInt64).toNat)).toNat, UInt8.ofNat (shr32 w ((16 : UInt64).toNat)).toNat, UInt8.ofNat (shr32 w ((24 : UInt64).toNat)).toNat] = st8 4 (UInt64.ofNat w.toNat) := by
  have hw := w.toNat_lt
  have e0 : (UInt64.ofNat w.toNat).toNat = w.toNat := by simp only [UInt64.toNat_ofNat']; omega
  unfold st8
  rw [e0]
  simp only [List.range_succ, List.range_zero, List.nil_append, List.map_append, List.map_cons, List.map_nil, List.cons_append]
  simp only [shr32]
  congr 1
  · simp
  congr 1
  · apply UInt8.eq_of_toBitVec_eq; apply BitVec.eq_of_toNat_eq; simp [Nat.shiftRight_eq_div_pow]
  congr 1
  · apply UInt8.eq_of_toBitVec_eq; apply BitVec.eq_of_toNat_eq; simp [Nat.shiftRight_eq_div_pow]
  congr 1
  · apply UInt8.eq_of_toBitVec_eq; apply BitVec.eq_of_toNat_eq; simp [Nat.shiftRight_eq_div_pow]
theorem swBytes (h : Vec UInt32 8) : m_mixs_Bytes h = some (Bys h) := by
  unfold m_mixs_Bytes
  refine whileO_run (fun i => ((List.range i).foldl (fun b i => b ++ st8 4 (UInt64.ofNat (h.g i).toNat)) [], (i : Int))) 8 (fun i hi => ?_) rfl
  unfold m_mixs_Bytes_l0
  simp only []
  rw [if_pos (by omega), geti_v _ _ hi, w64_succ i (by omega)]
  simp only [Option.bind_some]
  rw [four_bytes]
  have hq : (List.range (i + 1)).foldl (fun b i => b ++ st8 4 (UInt64.ofNat (h.g i).toNat)) [] = (List.range i).foldl (fun b i => b ++ st8 4 (UInt64.ofNat (h.g i).toNat)) [] ++ st8 4 (UInt64.ofNat (h.g i).toNat) := by rw [List.range_succ, List.foldl_append]; rfl
  rw [app_ok (by rw [by_len _ 4 (fun i => st8_len 4 _), st8_len]; omega), hq]
  rfl
end Go.Sx

