import Derived.Test.YtenfdhhjafddlaaP1
namespace Go.Sx
set_option linter.unusedVariables false
set_option linter.unusedSimpArgs false
/-! ### words of bytes -/
/-- the word of bytes, the low one first -/
def word64 : List UInt8 → UInt64
  | [] => 0
  | b :: r => UInt64.ofNat b.toNat + 256 * word64 r

/-- the value as a natural number -/
def leN : List UInt8 → Nat
  | [] => 0
  | b :: r => b.toNat + 256 * leN r
theorem leN_lt (l : List UInt8) : leN l < 256 ^ l.length := by
  induction l with
  | nil => simp [leN]
  | cons b r ih =>
    have := b.toNat_lt
    simp only [leN, List.length_cons, Nat.pow_succ]
    omega
theorem leN_append (l : List UInt8) (b : UInt8) : leN (l ++ [b]) = leN l + 256 ^ l.length * b.toNat := by
  induction l with
  | nil => simp [leN]
  | cons x r ih =>
    simp only [List.cons_append, leN, ih, List.length_cons, Nat.pow_succ, Nat.mul_add]
    rw [Nat.mul_comm (256 ^ r.length) 256, Nat.mul_assoc]
    omega
theorem pow256 (n : Nat) : 256 ^ n = 2 ^ (8 * n) := by
  rw [show (256 : Nat) = 2 ^ 8 from rfl, ← Nat.pow_mul]

/-- the program's load of n bytes -/
theorem wload (b : List UInt8) (hb : b.length ≤ 4194304) (at_ : Int) (ha : -9223372036854775808 ≤ at_ ∧ at_ ≤ 9223372036854775807) (n : Nat) (hn : n ≤ 8) :
    m_word_load b at_ n = some (if at_ < 0 then (0, 1) else if (b.length : Int) < at_ + n then (0, 3) else (UInt64.ofNat (leN ((b.drop at_.toNat).take n)), 0)) := by
  unfold m_word_load
  by_cases h0 : at_ < 0
  · rw [if_pos h0, if_pos h0]
  rw [if_neg h0, if_neg h0]
  have e : ((decide (((b.length : Nat) : Int) < at_)) || (decide ((w64 (((b.length : Nat) : Int) - at_)) < n))) = true ↔ (b.length : Int) < at_ + n := by
    rw [w64_id (by omega)]
    simp only [Bool.or_eq_true, decide_eq_true_eq]
    omega
  by_cases h1 : (b.length : Int) < at_ + n
  · rw [if_pos (e.2 h1), if_pos h1]
  rw [if_neg (fun h => h1 (e.1 h)), if_neg h1]
  obtain ⟨a, rfl⟩ : ∃ a : Nat, at_ = a := ⟨at_.toNat, by omega⟩
  simp only [Int.toNat_natCast]
  refine whileO_eq (fun i s => s = (UInt64.ofNat (leN ((b.drop a).take i)), (i : Int)) ∧ i ≤ n) _ n _ ⟨by simp [leN], by omega⟩ ?_
  rintro i s ⟨rfl, hi⟩
  unfold m_word_load_l0
  by_cases hlt : i < n
  · left
    refine ⟨hlt, (UInt64.ofNat (leN ((b.drop a).take (i + 1))), ((i + 1 : Nat) : Int)), ?_, rfl, by omega⟩
    have e1 : w64 ((a : Int) + (i : Int)) = ((a + i : Nat) : Int) := by rw [w64_id (by omega)]; omega
    have hai : a + i < b.length := by omega
    have e2 : w64 (8 * (i : Int)) = ((8 * i : Nat) : Int) := by rw [w64_id (by omega)]; omega
    have e3 : w64 ((i : Int) + 1) = ((i + 1 : Nat) : Int) := by rw [w64_id (by omega)]; omega
    simp only []
    rw [if_pos (by omega), e1, geti_nat hai]
    simp only [Option.bind_some]
    rw [e2, need_ok (by omega), e3]
    simp only [Option.bind_some, Int.toNat_natCast]
    congr 3
    have hd : (b.drop a).take (i + 1) = (b.drop a).take i ++ [b[a + i]] := by
      rw [List.take_succ_eq_append_getElem (by simp; omega)]
      simp
    rw [hd, leN_append, List.length_take, List.length_drop, Nat.min_eq_left (by omega), pow256]
    have hx := (b[a + i]).toNat_lt
    have hlt2 := leN_lt ((b.drop a).take i)
    rw [List.length_take, List.length_drop, Nat.min_eq_left (by omega), pow256] at hlt2
    have hp : 2 ^ (8 * i) * 256 = 2 ^ (8 * (i + 1)) := by rw [show 8 * (i + 1) = 8 * i + 8 from by omega, Nat.pow_add]
    have hq : 2 ^ (8 * (i + 1)) ≤ 2 ^ 64 := Nat.pow_le_pow_right (by omega) (by omega)
    have hr : 2 ^ (8 * i) * (b[a + i]).toNat < 2 ^ (8 * (i + 1)) := by
      rw [← hp]; exact Nat.mul_lt_mul_of_pos_left hx (Nat.pow_pos (by omega))
    apply UInt64.eq_of_toBitVec_eq
    apply BitVec.eq_of_toNat_eq
    simp only [UInt64.toBitVec_or, shl64, BitVec.toNat_or, BitVec.toNat_shiftLeft]
    simp only [UInt64.toNat_toBitVec, UInt64.toNat_ofNat']
    have m1 : leN ((b.drop a).take i) % 2 ^ 64 = leN ((b.drop a).take i) := Nat.mod_eq_of_lt (by omega)
    have m2 : (b[a + i]).toNat % 2 ^ 64 = (b[a + i]).toNat := Nat.mod_eq_of_lt (by omega)
    have m3 : ((b[a + i]).toNat <<< (8 * i)) % 2 ^ 64 = (b[a + i]).toNat <<< (8 * i) := by
      apply Nat.mod_eq_of_lt; rw [Nat.shiftLeft_eq, Nat.mul_comm]; omega
    rw [m1, m2, m3, Nat.or_comm, ← Nat.shiftLeft_add_eq_or_of_lt hlt2, Nat.shiftLeft_eq, Nat.mul_comm]
    rw [Nat.mod_eq_of_lt]
    · omega
    · have : leN ((b.drop a).take i) + 2 ^ (8 * i) * (b[a + i]).toNat < 2 ^ (8 * (i + 1)) := by
        rw [← hp]
        have h5 : 2 ^ (8 * i) * (b[a + i]).toNat + 2 ^ (8 * i) ≤ 2 ^ (8 * i) * 256 := by
          rw [← Nat.mul_succ]; exact Nat.mul_le_mul_left _ (by omega)
        omega
      omega
  · right
    obtain rfl : i = n := by omega
    simp
/-- the document's load of n bytes -/
theorem rload (b : List UInt8) (hb : b.length ≤ 4194304) (at_ : Int) (ha : -9223372036854775808 ≤ at_ ∧ at_ ≤ 9223372036854775807) (n : Nat) (hn : n ≤ 8) :
    m_r01_Load b at_ n = some (if at_ < 0 then (0, 1) else if (b.length : Int) < at_ + n then (0, 3) else (UInt64.ofNat (leN ((b.drop at_.toNat).take n)), 0)) := by
  unfold m_r01_Load
  by_cases h0 : at_ < 0
  · rw [if_pos h0, if_pos h0]
  rw [if_neg h0, if_neg h0]
  have e : ((decide (((b.length : Nat) : Int) < at_)) || (decide ((w64 (((b.length : Nat) : Int) - at_)) < n))) = true ↔ (b.length : Int) < at_ + n := by
    rw [w64_id (by omega)]
    simp only [Bool.or_eq_true, decide_eq_true_eq]
    omega
  by_cases h1 : (b.length : Int) < at_ + n
  · rw [if_pos (e.2 h1), if_pos h1]
  rw [if_neg (fun h => h1 (e.1 h)), if_neg h1]
  obtain ⟨a, rfl⟩ : ∃ a : Nat, at_ = a := ⟨at_.toNat, by omega⟩
  simp only [Int.toNat_natCast]
  rw [w64_id (by omega)]
  refine whileO_eq (fun i s => s = (UInt64.ofNat (leN (((b.drop a).take n).drop (n - i))), (n : Int) - 1 - i) ∧ i ≤ n) _ n _ ⟨?_, by omega⟩ ?_
  · have : ((b.drop a).take n).drop (n - 0) = [] := by apply List.drop_eq_nil_of_le; simp; omega
    rw [this]; simp [leN]
  rintro i s ⟨rfl, hi⟩
  unfold m_r01_Load_l0
  by_cases hlt : i < n
  · left
    refine ⟨hlt, _, ?_, rfl, by omega⟩
    have e1 : w64 ((a : Int) + ((n : Int) - 1 - i)) = ((a + (n - 1 - i) : Nat) : Int) := by rw [w64_id (by omega)]; omega
    have e3 : w64 ((n : Int) - 1 - i - 1) = (n : Int) - 1 - ((i + 1 : Nat) : Int) := by rw [w64_id (by omega)]; omega
    simp only []
    rw [if_pos (by omega), e1, geti_nat (by omega : a + (n - 1 - i) < b.length)]
    simp only [Option.bind_some]
    rw [e3]
    congr 3
    have hd : ((b.drop a).take n).drop (n - (i + 1)) = b[a + (n - 1 - i)] :: ((b.drop a).take n).drop (n - i) := by
      rw [List.drop_eq_getElem_cons (by simp; omega)]
      simp only [List.getElem_take, List.getElem_drop]
      have q1 : n - (i + 1) + 1 = n - i := by omega
      rw [q1]
      congr 2; omega
    rw [hd, leN]
    apply UInt64.eq_of_toBitVec_eq
    apply BitVec.eq_of_toNat_eq
    simp only [UInt64.toNat_toBitVec, UInt64.toNat_add, UInt64.toNat_mul, UInt64.toNat_ofNat']
    generalize leN _ = y
    generalize (b[a + (n - 1 - i)]).toNat = z
    have : UInt64.toNat 256 = 256 := rfl
    rw [this]
    omega
  · right
    obtain rfl : i = n := by omega
    simp only []
    rw [if_neg (by omega)]
    simp
theorem load32 (b : List UInt8) (hb : b.length ≤ 4194304) (at_ : Int) (ha : -9223372036854775808 ≤ at_ ∧ at_ ≤ 9223372036854775807) :
    m_word_Load32 b at_ = some (if at_ < 0 then (0, 1) else if (b.length : Int) < at_ + 4 then (0, 3) else (UInt32.ofNat (leN ((b.drop at_.toNat).take 4)), 0)) := by
  unfold m_word_Load32
  have := wload b hb at_ ha 4 (by omega)
  rw [show ((4 : Nat) : Int) = 4 from rfl] at this
  rw [this]
  simp only [Option.bind_some]
  split
  · rfl
  split
  · rfl
  congr 2
  have hlt := leN_lt ((b.drop at_.toNat).take 4)
  have hq : 256 ^ ((b.drop at_.toNat).take 4).length ≤ 256 ^ 4 := Nat.pow_le_pow_right (by omega) (by simp; omega)
  simp only [UInt64.toNat_ofNat']
  rw [Nat.mod_eq_of_lt (by omega)]
theorem load64 (b : List UInt8) (hb : b.length ≤ 4194304) (at_ : Int) (ha : -9223372036854775808 ≤ at_ ∧ at_ ≤ 9223372036854775807) :
    m_word_Load64 b at_ = some (if at_ < 0 then (0, 1) else if (b.length : Int) < at_ + 8 then (0, 3) else (UInt64.ofNat (leN ((b.drop at_.toNat).take 8)), 0)) := by
  unfold m_word_Load64
  have := wload b hb at_ ha 8 (by omega)
  rw [show ((8 : Nat) : Int) = 8 from rfl] at this
  rw [this]
  rfl

/-! ### Store -/
theorem store32 (w : UInt32) : m_word_Store32 w = some ((List.range 4).map fun i => UInt8.ofNat (w.toNat / 256 ^ i)) := by
  unfold m_word_Store32
  simp only [List.range_succ, List.range_zero, List.nil_append, List.map_append, List.map_cons, List.map_nil, List.cons_append, Option.some.injEq]
  simp only [shr32]
  congr 1
  · simp
  congr 1
  · apply UInt8.eq_of_toBitVec_eq; apply BitVec.eq_of_toNat_eq; simp [Nat.shiftRight_eq_div_pow]
  congr 1
  · apply UInt8.eq_of_toBitVec_eq; apply BitVec.eq_of_toNat_eq; simp [Nat.shiftRight_eq_div_pow]
  congr 1
  · apply UInt8.eq_of_toBitVec_eq; apply BitVec.eq_of_toNat_eq; simp [Nat.shiftRight_eq_div_pow]
theorem store64 (w : UInt64) : m_word_Store64 w = some ((List.range 8).map fun i => UInt8.ofNat (w.toNat / 256 ^ i)) := by
  unfold m_word_Store64
  refine whileO_eq (fun i s => s = ((List.range i).map (fun i => UInt8.ofNat (w.toNat / 256 ^ i)) ++ List.replicate (8 - i) 0, (i : Int)) ∧ i ≤ 8) _ 8 _ ⟨by simp, by omega⟩ ?_
  rintro i s ⟨rfl, hi⟩
  unfold m_word_Store64_l0
  by_cases hlt : i < 8
  · left
    refine ⟨hlt, _, ?_, rfl, by omega⟩
    have e2 : w64 (8 * (i : Int)) = ((8 * i : Nat) : Int) := by rw [w64_id (by omega)]; omega
    have e3 : w64 ((i : Int) + 1) = ((i + 1 : Nat) : Int) := by rw [w64_id (by omega)]; omega
    simp only []
    rw [if_pos (by omega), e2, need_ok (by omega), e3]
    simp only [Option.bind_some]
    rw [geti_nat (by simp; omega)]
    simp only [Option.bind_some, Int.toNat_natCast]
    congr 3
    have hr : List.replicate (8 - i) (0 : UInt8) = 0 :: List.replicate (8 - (i + 1)) 0 := by
      rw [← List.replicate_succ]; congr 1; omega
    rw [hr, List.range_succ, List.map_append, List.append_assoc]
    rw [List.set_append_right _ _ (by simp)]
    simp only [List.length_map, List.length_range, Nat.sub_self, List.set_cons_zero, List.map_cons, List.map_nil, List.cons_append, List.nil_append]
    congr 2
    apply UInt8.eq_of_toBitVec_eq; apply BitVec.eq_of_toNat_eq
    simp only [shr64, pow256]
    simp [Nat.shiftRight_eq_div_pow]
  · right
    obtain rfl : i = 8 := by omega
    simp
theorem rstore (w : UInt64) (n : Nat) (hn : n ≤ 8) : m_r01_Store w n = some ((List.range n).map fun i => UInt8.ofNat (w.toNat / 256 ^ i)) := by
  unfold m_r01_Store
  refine whileO_eq (fun i s => s = (UInt64.ofNat (w.toNat / 256 ^ i), (List.range i).map (fun i => UInt8.ofNat (w.toNat / 256 ^ i)), (i : Int)) ∧ i ≤ n) _ n _ ⟨by simp, by omega⟩ ?_
  rintro i s ⟨rfl, hi⟩
  unfold m_r01_Store_l0
  have hw := w.toNat_lt
  have hd : w.toNat / 256 ^ i ≤ w.toNat := Nat.div_le_self _ _
  by_cases hlt : i < n
  · left
    refine ⟨hlt, _, ?_, rfl, by omega⟩
    have e3 : w64 ((i : Int) + 1) = ((i + 1 : Nat) : Int) := by rw [w64_id (by omega)]; omega
    simp only []
    rw [if_pos (by omega), app_ok (by simp; omega), e3]
    simp only [Option.bind_some]
    have q1 : UInt64.ofNat (w.toNat / 256 ^ i) / 256 = UInt64.ofNat (w.toNat / 256 ^ (i + 1)) := by
      apply UInt64.eq_of_toBitVec_eq; apply BitVec.eq_of_toNat_eq
      simp only [UInt64.toNat_toBitVec, UInt64.toNat_div, UInt64.toNat_ofNat']
      rw [Nat.mod_eq_of_lt (by omega), Nat.mod_eq_of_lt (Nat.lt_of_le_of_lt (Nat.div_le_self _ _) hw), Nat.pow_succ, ← Nat.div_div_eq_div_mul]
      rfl
    have q2 : UInt8.ofNat (UInt64.ofNat (w.toNat / 256 ^ i) % 256).toNat = UInt8.ofNat (w.toNat / 256 ^ i) := by
      apply UInt8.eq_of_toBitVec_eq; apply BitVec.eq_of_toNat_eq
      simp only [UInt8.toNat_toBitVec, UInt8.toNat_ofNat', UInt64.toNat_mod, UInt64.toNat_ofNat']
      rw [show UInt64.toNat 256 = 256 from rfl]
      omega
    rw [q1, q2, List.range_succ, List.map_append]
    rfl
  · right
    obtain rfl : i = n := by omega
    simp
theorem leN_store (v n : Nat) : leN ((List.range n).map fun i => UInt8.ofNat (v / 256 ^ i)) = v % 256 ^ n := by
  induction n with
  | zero => simp [leN, Nat.mod_one]
  | succ n ih =>
    rw [List.range_succ, List.map_append, List.map_cons, List.map_nil, leN_append, ih]
    simp only [List.length_map, List.length_range, UInt8.toNat_ofNat']
    rw [show (256 : Nat) ^ (n + 1) = 256 ^ n * 256 from Nat.pow_succ _ _, Nat.mod_mul (x := v) (a := 256 ^ n) (b := 256)]

theorem p_l01_WordStores (w : UInt32) (x : UInt64) : m_l01_WordStores w x = some true := by
  unfold m_l01_WordStores
  have hw := w.toNat_lt
  have hx := x.toNat_lt
  have e1 := rstore (UInt64.ofNat w.toNat) 4 (by omega)
  have e2 := rstore x 8 (by omega)
  rw [show ((4 : Nat) : Int) = 4 from rfl] at e1
  rw [show ((8 : Nat) : Int) = 8 from rfl] at e2
  have e0 : (UInt64.ofNat w.toNat).toNat = w.toNat := by simp only [UInt64.toNat_ofNat']; omega
  rw [e0] at e1
  rw [store32, store64, e1, e2]
  simp only [Option.bind_some]
  rw [same_ok _ _ (by simp)]
  simp only [Option.bind_some, decide_true, Bool.not_true, Bool.false_eq_true, if_false]
  rw [same_ok _ _ (by simp)]
  simp only [Option.bind_some, decide_true, Bool.not_true, Bool.false_eq_true, if_false]
  rw [load32 _ (by simp) 0 (by omega), load64 _ (by simp) 0 (by omega)]
  simp only [List.length_map, List.length_range, Int.toNat_zero, List.drop_zero, Option.bind_some]
  rw [List.take_of_length_le (by simp), List.take_of_length_le (by simp), leN_store, leN_store]
  simp only [show ¬ ((0 : Int) < 0) from by omega, show ¬ ((4 : Nat) : Int) < 0 + 4 from by omega, show ¬ ((8 : Nat) : Int) < 0 + 8 from by omega, if_false]
  have f1 : UInt32.ofNat (w.toNat % 256 ^ 4) = w := by
    rw [Nat.mod_eq_of_lt (by omega)]; simp
  have f2 : UInt64.ofNat (x.toNat % 256 ^ 8) = x := by
    rw [Nat.mod_eq_of_lt (by omega)]; simp
  simp [f1, f2]

/-! ### awake -/
theorem flen {α β : Type} (k : Nat) (f : α → List β) (h : ∀ c, (f c).length = k) (l : List α) : (l.flatMap f).length = k * l.length := by
  induction l with
  | nil => simp
  | cons x r ih => simp only [List.flatMap_cons, List.length_append, h, ih, List.length_cons, Nat.mul_succ]; omega
theorem getD_at {α : Type} (l : List α) (i : Nat) (d : α) (h : i < l.length) : l.getD i d = l[i] := by
  rw [List.getD_eq_getElem?_getD, List.getElem?_eq_getElem h]; rfl
theorem hexcase (b : List UInt8) (hb : b.length ≤ 4194304) : m_word_Hex b = some (b.flatMap fun c => [(([48, 49, 50, 51, 52, 53, 54, 55, 56, 57, 97, 98, 99, 100, 101, 102] : List UInt8).getD (c.toNat / 16) 0), (([48, 49, 50, 51, 52, 53, 54, 55, 56, 57, 97, 98, 99, 100, 101, 102] : List UInt8).getD (c.toNat % 16) 0)]) := by
  unfold m_word_Hex
  rw [w64_id (by omega), need_ok ⟨by omega, by omega, by omega⟩]
  simp only [Option.bind_some, Int.toNat_zero, List.replicate_zero]
  refine whileO_eq (fun i s => s = ((b.take i).flatMap (fun c => [(([48, 49, 50, 51, 52, 53, 54, 55, 56, 57, 97, 98, 99, 100, 101, 102] : List UInt8).getD (c.toNat / 16) 0), (([48, 49, 50, 51, 52, 53, 54, 55, 56, 57, 97, 98, 99, 100, 101, 102] : List UInt8).getD (c.toNat % 16) 0)]), (i : Int)) ∧ i ≤ b.length) _ b.length _ ⟨by simp, by omega⟩ ?_
  rintro i s ⟨rfl, hi⟩
  unfold m_word_Hex_l0
  by_cases hlt : i < b.length
  · left
    refine ⟨hlt, _, ?_, rfl, by omega⟩
    have e3 : w64 ((i : Int) + 1) = ((i + 1 : Nat) : Int) := by rw [w64_id (by omega)]; omega
    simp only []
    rw [if_pos (by omega), geti_nat hlt, e3]
    simp only [Option.bind_some]
    have hc := (b[i]).toNat_lt
    have q1 : (shr8 b[i] ((4 : UInt64).toNat)).toNat = (b[i]).toNat / 16 := by
      simp [shr8, Nat.shiftRight_eq_div_pow]
    have q2 : (b[i] &&& 15).toNat = (b[i]).toNat % 16 := by
      simp only [UInt8.toNat_and]
      exact Nat.and_two_pow_sub_one_eq_mod _ 4
    rw [q1, q2]
    rw [geti_nat (by simp; omega), geti_nat (by simp; omega)]
    simp only [Option.bind_some]
    have hl : ((b.take i).flatMap (fun c => [(([48, 49, 50, 51, 52, 53, 54, 55, 56, 57, 97, 98, 99, 100, 101, 102] : List UInt8).getD (c.toNat / 16) 0), (([48, 49, 50, 51, 52, 53, 54, 55, 56, 57, 97, 98, 99, 100, 101, 102] : List UInt8).getD (c.toNat % 16) 0)])).length = 2 * i := by
      rw [flen 2 _ (fun c => rfl), List.length_take, Nat.min_eq_left hi]
    rw [app_ok (by rw [hl]; simp; omega)]
    simp only [Option.bind_some]
    congr 3
    rw [List.take_succ_eq_append_getElem hlt, List.flatMap_append]
    simp only [List.flatMap_cons, List.flatMap_nil, List.append_nil]
    congr 1
    rw [getD_at _ _ _ (by simp; omega), getD_at _ _ _ (by simp; omega)]
  · right
    obtain rfl : i = b.length := by omega
    simp
theorem awake_ok : m_l01_awake = some true := by
  unfold m_l01_awake
  rw [load32 _ (by simp) 0 (by omega), hexcase _ (by simp), turn64 _ _ (by omega)]
  decide
theorem p_l01_WordTurns (w : UInt32) (x : UInt64) (n : Int) (hn : -9223372036854775808 ≤ n ∧ n ≤ 9223372036854775807) : m_l01_WordTurns w x n = some true := by
  unfold m_l01_WordTurns
  rw [turn32 _ _ hn, rturn32 _ _ hn, turn64 _ _ hn, rturn64 _ _ hn]
  simp only [Option.bind_some, if_true, awake_ok]
theorem p_l01_WordLoads (b : List UInt8) (hb : b.length ≤ 1048576) (n : Int) (hn : -9223372036854775808 ≤ n ∧ n ≤ 9223372036854775807) : m_l01_WordLoads b n = some true := by
  unfold m_l01_WordLoads
  rw [copied_ok b (by omega)]
  simp only [Option.bind_some]
  have e1 := rload b (by omega) n hn 4 (by omega)
  have e2 := rload b (by omega) n hn 8 (by omega)
  rw [show ((4 : Nat) : Int) = 4 from rfl] at e1
  rw [show ((8 : Nat) : Int) = 8 from rfl] at e2
  rw [load32 b (by omega) n hn, load64 b (by omega) n hn, e1, e2]
  simp only [Option.bind_some]
  rw [same_ok b b (by omega), awake_ok]
  have hlt := leN_lt ((b.drop n.toNat).take 4)
  have hq : 256 ^ ((b.drop n.toNat).take 4).length ≤ 256 ^ 4 := Nat.pow_le_pow_right (by omega) (by simp; omega)
  have h3 : UInt64.ofNat (UInt32.ofNat (leN ((b.drop n.toNat).take 4))).toNat = UInt64.ofNat (leN ((b.drop n.toNat).take 4)) := by
    simp only [UInt32.toNat_ofNat']
    rw [Nat.mod_eq_of_lt (by omega)]
  have h4 : leN ((b.drop n.toNat).take 4) % 4294967296 = leN ((b.drop n.toNat).take 4) := Nat.mod_eq_of_lt (by omega)
  by_cases h0 : n < 0
  · simp [h0]
  by_cases h1 : (b.length : Int) < n + 4
  · simp [h0, h1, show (b.length : Int) < n + 8 from by omega]
  · simp [h0, h1, h4]
/-! ### Add -/
theorem p_l01_WordCounts (a : UInt64) (b : UInt64) (n : UInt64) : m_l01_WordCounts a b n = some true := by
  unfold m_l01_WordCounts m_word_Add m_r01_Add add64
  have ha := a.toNat_lt
  have hb := b.toNat_lt
  have hn := n.toNat_lt
  simp only [show (0 : UInt64).toNat = 0 from rfl, Nat.zero_le, if_true, Option.bind_some, Nat.add_zero]
  have hc : (UInt64.ofNat ((a.toNat + n.toNat) / 18446744073709551616)).toNat = (a.toNat + n.toNat) / 18446744073709551616 := by
    simp only [UInt64.toNat_ofNat']; omega
  rw [hc, if_pos (by omega)]
  simp only [Option.bind_some, awake_ok]
  have q1 : UInt64.ofNat (a.toNat + n.toNat) = a + n := by
    apply UInt64.eq_of_toBitVec_eq; apply BitVec.eq_of_toNat_eq; simp
  rw [q1]
  by_cases h : a ≤ a + n
  · rw [if_pos h]
    have h' : a.toNat + n.toNat < 18446744073709551616 := by
      rw [UInt64.le_iff_toNat_le, UInt64.toNat_add] at h
      omega
    rw [Nat.div_eq_of_lt h', Nat.add_zero]
    rw [Nat.div_eq_of_lt hb]
    simp
  · rw [if_neg h]
    have h' : ¬ a.toNat + n.toNat < 18446744073709551616 := by
      rw [UInt64.le_iff_toNat_le, UInt64.toNat_add] at h
      omega
    have e : (a.toNat + n.toNat) / 18446744073709551616 = 1 := by omega
    rw [e]
    have q2 : UInt64.ofNat (b.toNat + 1) = b + 1 := by
      apply UInt64.eq_of_toBitVec_eq; apply BitVec.eq_of_toNat_eq; simp
    have q3 : decide (UInt64.ofNat ((b.toNat + 1) / 18446744073709551616) = 1) = decide (b + 1 = 0) := by
      congr 1
      apply propext
      rw [← UInt64.toNat_inj, ← UInt64.toNat_inj, UInt64.toNat_add]
      simp only [UInt64.toNat_ofNat', show (1 : UInt64).toNat = 1 from rfl, show (0 : UInt64).toNat = 0 from rfl]
      omega
    simp [q2, q3]
end Go.Sx
