import Derived.Test.YtlekdnlojpnlmaaQ2
namespace Go.Sx
open Go.RowKit
set_option linter.unusedVariables false
set_option linter.unusedSimpArgs false
/-! ### words of bytes -/
/-- the word of bytes, the low one first -/
def word64 : List UInt8 → UInt64
  | [] => 0
  | b :: r => UInt64.ofNat b.toNat + 256 * word64 r

/-- the value as a natural number -/
def leN : List UInt8 → Nat
  | [] => 0
  | b :: r => b.toNat + 256 * leN r
theorem leN_lt (l : List UInt8) : leN l < 256 ^ l.length := by
  induction l with
  | nil => simp [leN]
  | cons b r ih =>
    have := b.toNat_lt
    simp only [leN, List.length_cons, Nat.pow_succ]
    omega
theorem leN_append (l : List UInt8) (b : UInt8) : leN (l ++ [b]) = leN l + 256 ^ l.length * b.toNat := by
  induction l with
  | nil => simp [leN]
  | cons x r ih =>
    simp only [List.cons_append, leN, ih, List.length_cons, Nat.pow_succ, Nat.mul_add]
    rw [Nat.mul_comm (256 ^ r.length) 256, Nat.mul_assoc]
    omega
theorem pow256 (n : Nat) : 256 ^ n = 2 ^ (8 * n) := by
  rw [show (256 : Nat) = 2 ^ 8 from rfl, ← Nat.pow_mul]

/-- the program's load of n bytes -/
theorem wload (b : List UInt8) (hb : b.length ≤ 33554432) (at_ : Int) (ha : -9223372036854775808 ≤ at_ ∧ at_ ≤ 9223372036854775807) (n : Nat) (hn : n ≤ 8) :
    m_word_load b at_ n = some (if at_ < 0 then (0, 1) else if (b.length : Int) < at_ + n then (0, 3) else (UInt64.ofNat (leN ((b.drop at_.toNat).take n)), 0)) := by
  unfold m_word_load
  by_cases h0 : at_ < 0
  · rw [if_pos h0, if_pos h0]
  rw [if_neg h0, if_neg h0]
  have e : ((decide (((b.length : Nat) : Int) < at_)) || (decide ((w64 (((b.length : Nat) : Int) - at_)) < n))) = true ↔ (b.length : Int) < at_ + n := by
    rw [w64_id (by omega)]
    simp only [Bool.or_eq_true, decide_eq_true_eq]
    omega
  by_cases h1 : (b.length : Int) < at_ + n
  · rw [if_pos (e.2 h1), if_pos h1]
  rw [if_neg (fun h => h1 (e.1 h)), if_neg h1]
  obtain ⟨a, rfl⟩ : ∃ a : Nat, at_ = a := ⟨at_.toNat, by omega⟩
  simp only [Int.toNat_natCast]
  refine whileO_eq (fun i s => s = (UInt64.ofNat (leN ((b.drop a).take i)), (i : Int)) ∧ i ≤ n) _ n _ ⟨by simp [leN], by omega⟩ ?_
  rintro i s ⟨rfl, hi⟩
  unfold m_word_load_l0
  by_cases hlt : i < n
  · left
    refine ⟨hlt, (UInt64.ofNat (leN ((b.drop a).take (i + 1))), ((i + 1 : Nat) : Int)), ?_, rfl, by omega⟩
    have e1 : w64 ((a : Int) + (i : Int)) = ((a + i : Nat) : Int) := by rw [w64_id (by omega)]; omega
    have hai : a + i < b.length := by omega
    have e2 : w64 (8 * (i : Int)) = ((8 * i : Nat) : Int) := by rw [w64_id (by omega)]; omega
    have e3 : w64 ((i : Int) + 1) = ((i + 1 : Nat) : Int) := by rw [w64_id (by omega)]; omega
    simp only []
    rw [if_pos (by omega), e1, geti_nat hai]
    simp only [Option.bind_some]
    rw [e2, need_ok (by omega), e3]
    simp only [Option.bind_some, Int.toNat_natCast]
    congr 3
    have hd : (b.drop a).take (i + 1) = (b.drop a).take i ++ [b[a + i]] := by
      rw [List.take_succ_eq_append_getElem (by simp; omega)]
      simp
    rw [hd, leN_append, List.length_take, List.length_drop, Nat.min_eq_left (by omega), pow256]
    have hx := (b[a + i]).toNat_lt
    have hlt2 := leN_lt ((b.drop a).take i)
    rw [List.length_take, List.length_drop, Nat.min_eq_left (by omega), pow256] at hlt2
    have hp : 2 ^ (8 * i) * 256 = 2 ^ (8 * (i + 1)) := by rw [show 8 * (i + 1) = 8 * i + 8 from by omega, Nat.pow_add]
    have hq : 2 ^ (8 * (i + 1)) ≤ 2 ^ 64 := Nat.pow_le_pow_right (by omega) (by omega)
    have hr : 2 ^ (8 * i) * (b[a + i]).toNat < 2 ^ (8 * (i + 1)) := by
      rw [← hp]; exact Nat.mul_lt_mul_of_pos_left hx (Nat.pow_pos (by omega))
    apply UInt64.eq_of_toBitVec_eq
    apply BitVec.eq_of_toNat_eq
    simp only [UInt64.toBitVec_or, shl64, BitVec.toNat_or, BitVec.toNat_shiftLeft]
    simp only [UInt64.toNat_toBitVec, UInt64.toNat_ofNat']
    have m1 : leN ((b.drop a).take i) % 2 ^ 64 = leN ((b.drop a).take i) := Nat.mod_eq_of_lt (by omega)
    have m2 : (b[a + i]).toNat % 2 ^ 64 = (b[a + i]).toNat := Nat.mod_eq_of_lt (by omega)
    have m3 : ((b[a + i]).toNat <<< (8 * i)) % 2 ^ 64 = (b[a + i]).toNat <<< (8 * i) := by
      apply Nat.mod_eq_of_lt; rw [Nat.shiftLeft_eq, Nat.mul_comm]; omega
    rw [m1, m2, m3, Nat.or_comm, ← Nat.shiftLeft_add_eq_or_of_lt hlt2, Nat.shiftLeft_eq, Nat.mul_comm]
    rw [Nat.mod_eq_of_lt]
    · omega
    · have : leN ((b.drop a).take i) + 2 ^ (8 * i) * (b[a + i]).toNat < 2 ^ (8 * (i + 1)) := by
        rw [← hp]
        have h5 : 2 ^ (8 * i) * (b[a + i]).toNat + 2 ^ (8 * i) ≤ 2 ^ (8 * i) * 256 := by
          rw [← Nat.mul_succ]; exact Nat.mul_le_mul_left _ (by omega)
        omega
      omega
  · right
    obtain rfl : i = n := by omega
    simp
/-- the document's load of n bytes -/
theorem rload (b : List UInt8) (hb : b.length ≤ 33554432) (at_ : Int) (ha : -9223372036854775808 ≤ at_ ∧ at_ ≤ 9223372036854775807) (n : Nat) (hn : n ≤ 8) :
    m_r01_Load b at_ n = some (if at_ < 0 then (0, 1) else if (b.length : Int) < at_ + n then (0, 3) else (UInt64.ofNat (leN ((b.drop at_.toNat).take n)), 0)) := by
  unfold m_r01_Load
  by_cases h0 : at_ < 0
  · rw [if_pos h0, if_pos h0]
  rw [if_neg h0, if_neg h0]
  have e : ((decide (((b.length : Nat) : Int) < at_)) || (decide ((w64 (((b.length : Nat) : Int) - at_)) < n))) = true ↔ (b.length : Int) < at_ + n := by
    rw [w64_id (by omega)]
    simp only [Bool.or_eq_true, decide_eq_true_eq]
    omega
  by_cases h1 : (b.length : Int) < at_ + n
  · rw [if_pos (e.2 h1), if_pos h1]
  rw [if_neg (fun h => h1 (e.1 h)), if_neg h1]
  obtain ⟨a, rfl⟩ : ∃ a : Nat, at_ = a := ⟨at_.toNat, by omega⟩
  simp only [Int.toNat_natCast]
  rw [w64_id (by omega)]
  refine whileO_eq (fun i s => s = (UInt64.ofNat (leN (((b.drop a).take n).drop (n - i))), (n : Int) - 1 - i) ∧ i ≤ n) _ n _ ⟨?_, by omega⟩ ?_
  · have : ((b.drop a).take n).drop (n - 0) = [] := by apply List.drop_eq_nil_of_le; simp; omega
    rw [this]; simp [leN]
  rintro i s ⟨rfl, hi⟩
  unfold m_r01_Load_l0
  by_cases hlt : i < n
  · left
    refine ⟨hlt, _, ?_, rfl, by omega⟩
    have e1 : w64 ((a : Int) + ((n : Int) - 1 - i)) = ((a + (n - 1 - i) : Nat) : Int) := by rw [w64_id (by omega)]; omega
    have e3 : w64 ((n : Int) - 1 - i - 1) = (n : Int) - 1 - ((i + 1 : Nat) : Int) := by rw [w64_id (by omega)]; omega
    simp only []
    rw [if_pos (by omega), e1, geti_nat (by omega : a + (n - 1 - i) < b.length)]
    simp only [Option.bind_some]
    rw [e3]
    congr 3
    have hd : ((b.drop a).take n).drop (n - (i + 1)) = b[a + (n - 1 - i)] :: ((b.drop a).take n).drop (n - i) := by
      rw [List.drop_eq_getElem_cons (by simp; omega)]
      simp only [List.getElem_take, List.getElem_drop]
      have q1 : n - (i + 1) + 1 = n - i := by omega
      rw [q1]
      congr 2; omega
    rw [hd, leN]
    apply UInt64.eq_of_toBitVec_eq
    apply BitVec.eq_of_toNat_eq
    simp only [UInt64.toNat_toBitVec, UInt64.toNat_add, UInt64.toNat_mul, UInt64.toNat_ofNat']
    generalize leN _ = y
    generalize (b[a + (n - 1 - i)]).toNat = z
    have : UInt64.toNat 256 = 256 := rfl
    rw [this]
    omega
  · right
    obtain rfl : i = n := by omega
    simp only []
    rw [if_neg (by omega)]
    simp
theorem load32 (b : List UInt8) (hb : b.length ≤ 33554432) (at_ : Int) (ha : -9223372036854775808 ≤ at_ ∧ at_ ≤ 9223372036854775807) :
    m_word_Load32 b at_ = some (if at_ < 0 then (0, 1) else if (b.length : Int) < at_ + 4 then (0, 3) else (UInt32.ofNat (leN ((b.drop at_.toNat).take 4)), 0)) := by
  unfold m_word_Load32
  have := wload b hb at_ ha 4 (by omega)
  rw [show ((4 : Nat) : Int) = 4 from rfl] at this
  rw [this]
  simp only [Option.bind_some]
  split
  · rfl
  split
  · rfl
  congr 2
  have hlt := leN_lt ((b.drop at_.toNat).take 4)
  have hq : 256 ^ ((b.drop at_.toNat).take 4).length ≤ 256 ^ 4 := Nat.pow_le_pow_right (by omega) (by simp; omega)
  simp only [UInt64.toNat_ofNat']
  rw [Nat.mod_eq_of_lt (by omega)]
theorem load64 (b : List UInt8) (hb : b.length ≤ 33554432) (at_ : Int) (ha : -9223372036854775808 ≤ at_ ∧ at_ ≤ 9223372036854775807) :
    m_word_Load64 b at_ = some (if at_ < 0 then (0, 1) else if (b.length : Int) < at_ + 8 then (0, 3) else (UInt64.ofNat (leN ((b.drop at_.toNat).take 8)), 0)) := by
  unfold m_word_Load64
  have := wload b hb at_ ha 8 (by omega)
  rw [show ((8 : Nat) : Int) = 8 from rfl] at this
  rw [this]
  rfl

theorem store64 (w : UInt64) : m_word_Store64 w = some ((List.range 8).map fun i => UInt8.ofNat (w.toNat / 256 ^ i)) := by
  unfold m_word_Store64
  refine whileO_eq (fun i s => s = ((List.range i).map (fun i => UInt8.ofNat (w.toNat / 256 ^ i)) ++ List.replicate (8 - i) 0, (i : Int)) ∧ i ≤ 8) _ 8 _ ⟨by simp, by omega⟩ ?_
  rintro i s ⟨rfl, hi⟩
  unfold m_word_Store64_l0
  by_cases hlt : i < 8
  · left
    refine ⟨hlt, _, ?_, rfl, by omega⟩
    have e2 : w64 (8 * (i : Int)) = ((8 * i : Nat) : Int) := by rw [w64_id (by omega)]; omega
    have e3 : w64 ((i : Int) + 1) = ((i + 1 : Nat) : Int) := by rw [w64_id (by omega)]; omega
    simp only []
    rw [if_pos (by omega), e2, need_ok (by omega), e3]
    simp only [Option.bind_some]
    rw [geti_nat (by simp; omega)]
    simp only [Option.bind_some, Int.toNat_natCast]
    congr 3
    have hr : List.replicate (8 - i) (0 : UInt8) = 0 :: List.replicate (8 - (i + 1)) 0 := by
      rw [← List.replicate_succ]; congr 1; omega
    rw [hr, List.range_succ, List.map_append, List.append_assoc]
    rw [List.set_append_right _ _ (by simp)]
    simp only [List.length_map, List.length_range, Nat.sub_self, List.set_cons_zero, List.map_cons, List.map_nil, List.cons_append, List.nil_append]
    congr 2
    apply UInt8.eq_of_toBitVec_eq; apply BitVec.eq_of_toNat_eq
    simp only [shr64, pow256]
    simp [Nat.shiftRight_eq_div_pow]
  · right
    obtain rfl : i = 8 := by omega
    simp
theorem rstore (w : UInt64) (n : Nat) (hn : n ≤ 8) : m_r01_Store w n = some ((List.range n).map fun i => UInt8.ofNat (w.toNat / 256 ^ i)) := by
  unfold m_r01_Store
  refine whileO_eq (fun i s => s = (UInt64.ofNat (w.toNat / 256 ^ i), (List.range i).map (fun i => UInt8.ofNat (w.toNat / 256 ^ i)), (i : Int)) ∧ i ≤ n) _ n _ ⟨by simp, by omega⟩ ?_
  rintro i s ⟨rfl, hi⟩
  unfold m_r01_Store_l0
  have hw := w.toNat_lt
  have hd : w.toNat / 256 ^ i ≤ w.toNat := Nat.div_le_self _ _
  by_cases hlt : i < n
  · left
    refine ⟨hlt, _, ?_, rfl, by omega⟩
    have e3 : w64 ((i : Int) + 1) = ((i + 1 : Nat) : Int) := by rw [w64_id (by omega)]; omega
    simp only []
    rw [if_pos (by omega), app_ok (by simp; omega), e3]
    simp only [Option.bind_some]
    have q1 : UInt64.ofNat (w.toNat / 256 ^ i) / 256 = UInt64.ofNat (w.toNat / 256 ^ (i + 1)) := by
      apply UInt64.eq_of_toBitVec_eq; apply BitVec.eq_of_toNat_eq
      simp only [UInt64.toNat_toBitVec, UInt64.toNat_div, UInt64.toNat_ofNat']
      rw [Nat.mod_eq_of_lt (by omega), Nat.mod_eq_of_lt (Nat.lt_of_le_of_lt (Nat.div_le_self _ _) hw), Nat.pow_succ, ← Nat.div_div_eq_div_mul]
      rfl
    have q2 : UInt8.ofNat (UInt64.ofNat (w.toNat / 256 ^ i) % 256).toNat = UInt8.ofNat (w.toNat / 256 ^ i) := by
      apply UInt8.eq_of_toBitVec_eq; apply BitVec.eq_of_toNat_eq
      simp only [UInt8.toNat_toBitVec, UInt8.toNat_ofNat', UInt64.toNat_mod, UInt64.toNat_ofNat']
      rw [show UInt64.toNat 256 = 256 from rfl]
      omega
    rw [q1, q2, List.range_succ, List.map_append]
    rfl
  · right
    obtain rfl : i = n := by omega
    simp
theorem add_ok (lo hi n : UInt64) : m_word_Add lo hi n = some (UInt64.ofNat (lo.toNat + 18446744073709551616 * hi.toNat + n.toNat), UInt64.ofNat ((lo.toNat + 18446744073709551616 * hi.toNat + n.toNat) / 18446744073709551616), decide (340282366920938463463374607431768211456 ≤ lo.toNat + 18446744073709551616 * hi.toNat + n.toNat)) := by
  have hl := lo.toNat_lt
  have hh := hi.toNat_lt
  have hn := n.toNat_lt
  unfold m_word_Add add64
  simp only [show (0 : UInt64).toNat = 0 from rfl, Nat.zero_le, if_true, Option.bind_some, Nat.add_zero]
  have hc : (UInt64.ofNat ((lo.toNat + n.toNat) / 18446744073709551616)).toNat = (lo.toNat + n.toNat) / 18446744073709551616 := by
    simp only [UInt64.toNat_ofNat']; omega
  rw [hc, if_pos (by omega)]
  simp only [Option.bind_some, Option.some.injEq, Prod.mk.injEq]
  refine ⟨?_, ?_, ?_⟩
  · rw [← UInt64.toNat_inj]; simp only [UInt64.toNat_ofNat']; omega
  · rw [← UInt64.toNat_inj]; simp only [UInt64.toNat_ofNat']; omega
  · rw [decide_eq_decide, ← UInt64.toNat_inj]
    simp only [UInt64.toNat_ofNat', show (1 : UInt64).toNat = 1 from rfl]
    omega

/-- the count behind n more bytes -/
def cntb (c : UInt64 × UInt64) (n : UInt64) : UInt64 × UInt64 := (UInt64.ofNat (c.1.toNat + 18446744073709551616 * c.2.toNat + n.toNat), UInt64.ofNat ((c.1.toNat + 18446744073709551616 * c.2.toNat + n.toNat) / 18446744073709551616))

/-! ### a block's words, a digest's bytes (64 bits) -/
def wd64 (b : List UInt8) (i : Nat) : UInt64 := UInt64.ofNat (leN ((b.drop (8 * i)).take 8))
def Wb (b : List UInt8) : Vec UInt64 16 := (List.range 16).foldl (fun m (i : Nat) => vst m i (wd64 b i)) (Vec.rep 16 0)
theorem mul8 (i : Nat) (h : i < 100) : w64 (8 * (i : Int)) = ((8 * i : Nat) : Int) := by rw [w64_id (by omega)]; omega
theorem wload8 (b : List UInt8) (i : Nat) (hb : b.length ≤ 33554432) (hi : 8 * i + 8 ≤ b.length) : m_word_Load64 b ((8 * i : Nat) : Int) = some (wd64 b i, 0) := by
  rw [load64 b hb _ (by omega), if_neg (by omega), if_neg (by omega), Int.toNat_natCast]
  rfl
theorem rload8 (b : List UInt8) (i : Nat) (hb : b.length ≤ 33554432) (hi : 8 * i + 8 ≤ b.length) : m_r01_Load b ((8 * i : Nat) : Int) 8 = some (wd64 b i, 0) := by
  have := rload b hb ((8 * i : Nat) : Int) (by omega) 8 (by omega)
  rw [show ((8 : Nat) : Int) = 8 from rfl] at this
  rw [this, if_neg (by omega), if_neg (by omega), Int.toNat_natCast]
  rfl
theorem wWords (b : List UInt8) (hb : b.length = 128) : m_mixb_Words b = some (Wb b, 0) := by
  unfold m_mixb_Words
  rw [if_neg (by omega)]
  refine loopN _ 16 (fun m (i : Nat) => vst m i (wd64 b i)) _ _ (fun v i hi => ?_) (by unfold m_mixb_Words_l0; simp only []; rw [if_neg (by omega)]; rfl)
  unfold m_mixb_Words_l0
  simp only []
  rw [if_pos (by omega), mul8 i (by omega), wload8 b i (by omega) (by omega), geti_v _ _ hi, w64_succ i (by omega)]
  rfl
theorem rWords (b : List UInt8) (hb : b.length = 128) : m_r03_Words b = some (Wb b, 0) := by
  unfold m_r03_Words
  rw [if_neg (by omega)]
  refine loopN _ 16 (fun m (i : Nat) => vst m i (wd64 b i)) _ _ (fun v i hi => ?_) (by unfold m_r03_Words_l0; simp only []; rw [if_neg (by omega)]; rfl)
  unfold m_r03_Words_l0
  simp only []
  rw [if_pos (by omega), mul8 i (by omega), rload8 b i (by omega) (by omega), geti_v _ _ hi, w64_succ i (by omega)]
  rfl
def Stb (b : List UInt8) : Vec UInt64 8 := (List.range 8).foldl (fun h (i : Nat) => vst h i (ivb.getD i 0 ^^^ wd64 b i)) (Vec.rep 8 0)
theorem rStart (b : List UInt8) (hb : b.length = 64) : m_r03_Start b = some (Stb b, 0) := by
  unfold m_r03_Start
  rw [if_neg (by omega)]
  refine loopN _ 8 (fun m (i : Nat) => vst m i (ivb.getD i 0 ^^^ wd64 b i)) _ _ (fun v i hi => ?_) (by unfold m_r03_Start_l0; simp only []; rw [if_neg (by omega)]; rfl)
  unfold m_r03_Start_l0
  simp only []
  rw [if_pos (by omega), mul8 i (by omega), rload8 b i (by omega) (by omega), geti_v _ _ hi, w64_succ i (by omega), riv i hi]
  rfl
theorem wStart (b : List UInt8) (hb : b.length = 64) : m_mixb_Start b = some (Stb b, 0) := by
  unfold m_mixb_Start m_mixb_IV
  rw [if_neg (by omega)]
  simp only [Option.bind_some]
  have key : ∀ x : Nat → UInt64, (List.range 8).foldl (fun (h : Vec UInt64 8) (i : Nat) => vst h i (h.g i ^^^ x i)) ⟨ivb, rfl⟩ = (List.range 8).foldl (fun h (i : Nat) => vst h i (ivb.getD i 0 ^^^ x i)) (Vec.rep 8 0) := fun x => rfl
  refine loopN _ 8 (fun h (i : Nat) => vst h i (h.g i ^^^ wd64 b i)) _ _ (fun v i hi => ?_) ?_
  · unfold m_mixb_Start_l0
    simp only []
    rw [if_pos (by omega), mul8 i (by omega), wload8 b i (by omega) (by omega), geti_v _ _ hi, w64_succ i (by omega)]
    rfl
  · have := key (wd64 b)
    unfold ivb at this
    rw [this]
    rfl
def st8 (n : Nat) (w : UInt64) : List UInt8 := (List.range n).map fun i => UInt8.ofNat (w.toNat / 256 ^ i)
def Byb (h : Vec UInt64 8) : List UInt8 := (List.range 8).foldl (fun b i => b ++ st8 8 (h.g i)) []
theorem by_len (h : Nat → List UInt8) (k : Nat) (hk : ∀ i, (h i).length = k) : ∀ n, ((List.range n).foldl (fun b i => b ++ h i) []).length = n * k := by
  intro n
  induction n with
  | zero => simp
  | succ n ih => rw [List.range_succ, List.foldl_append]; simp only [List.foldl_cons, List.foldl_nil, List.length_append, ih, hk]; rw [Nat.succ_mul]
theorem st8_len (n : Nat) (w : UInt64) : (st8 n w).length = n := by simp [st8]
theorem Byb_len (h : Vec UInt64 8) : (Byb h).length = 64 := by unfold Byb; rw [by_len _ 8 (fun i => st8_len 8 _)]
theorem wBytes (h : Vec UInt64 8) : m_mixb_Bytes h = some (Byb h) := by
  unfold m_mixb_Bytes
  refine whileO_run (fun i => ((List.range i).foldl (fun b i => b ++ st8 8 (h.g i)) [], (i : Int))) 8 (fun i hi => ?_) rfl
  unfold m_mixb_Bytes_l0
  simp only []
  rw [if_pos (by omega), geti_v _ _ hi, w64_succ i (by omega)]
  simp only [Option.bind_some]
  rw [store64]
  simp only [Option.bind_some]
  have hq : (List.range (i + 1)).foldl (fun b i => b ++ st8 8 (h.g i)) [] = (List.range i).foldl (fun b i => b ++ st8 8 (h.g i)) [] ++ st8 8 (h.g i) := by rw [List.range_succ, List.foldl_append]; rfl
  rw [app_ok (by rw [by_len _ 8 (fun i => st8_len 8 _)]; simp; omega), hq]
  rfl
end Go.Sx

