import Derived.Test.YtfaaochjaajpjaaDoorMP
namespace Go.Sx
open Go.RowKit
set_option linter.unusedVariables false
set_option linter.unusedSimpArgs false
theorem tmod_eq (n : Int) (m : Int) (hm : 0 < m) : Int.tmod n m = if 0 ≤ n then n % m else -((-n) % m) := by
  split
  · rename_i h
    rw [Int.tmod_eq_emod_of_nonneg h]
  · rename_i h
    have : n = -(-n) := by omega
    rw [this, Int.neg_tmod, Int.tmod_eq_emod_of_nonneg (by omega)]
    simp
theorem rsame (a b : List UInt8) (h : a.length ≤ 4194304) : m_r01_Same a b = some (decide (a = b)) := by
  unfold m_r01_Same
  by_cases hl : a.length = b.length
  · rw [if_neg (by omega)]
    refine whileO_eq (fun i s => s = (i : Int) ∧ i ≤ a.length ∧ a.take i = b.take i) _ a.length 0 ⟨rfl, by omega, by simp⟩ ?_
    rintro i s ⟨rfl, hi, ht⟩
    unfold m_r01_Same_l0
    by_cases hlt : i < a.length
    · rw [if_pos (by omega), geti_nat hlt, geti_nat (xs := b) (by omega)]
      simp only [Option.bind_some]
      by_cases hx : a[i] = b[i]
      · left
        refine ⟨hlt, _, by rw [if_neg (by simpa using hx)], ?_, by omega, ?_⟩
        · rw [w64_id (by omega)]; rfl
        · rw [List.take_succ_eq_append_getElem hlt, List.take_succ_eq_append_getElem (by omega : i < b.length), ht, hx]
      · right
        rw [if_pos (by simpa using hx)]
        simp only [Option.map_some, Option.some.injEq, Sum.inr.injEq]
        symm
        simp only [decide_eq_false_iff_not]
        rintro rfl
        exact hx rfl
    · right
      obtain rfl : i = a.length := by omega
      rw [if_neg (by omega)]
      rw [List.take_length, hl, List.take_length] at ht
      simp [ht]
  · rw [if_pos (by omega)]
    have : a ≠ b := by rintro rfl; exact hl rfl
    simp [this]
theorem getD_at {α : Type} (l : List α) (i : Nat) (d : α) (h : i < l.length) : l.getD i d = l[i] := by
  rw [List.getD_eq_getElem?_getD, List.getElem?_eq_getElem h]; rfl
def dgN (n : Nat) : Nat := if 48 ≤ n ∧ n ≤ 57 then n - 48 else if 97 ≤ n ∧ n ≤ 102 then n - 87 else if 65 ≤ n ∧ n ≤ 70 then n - 55 else 16
def dg (c : UInt8) : Nat := dgN c.toNat
theorem of_bytes {p : UInt8 → Prop} (h : ∀ n : Nat, n < 256 → p (UInt8.ofNat n)) (c : UInt8) : p c := by
  have := h c.toNat c.toNat_lt
  simpa using this
def dgs (s : List UInt8) (j : Nat) : Nat := dg (s.getD j 0)
def hx (s : List UInt8) (i : Nat) : List UInt8 := (List.range ((i + 1) / 2)).map fun j => UInt8.ofNat (16 * dgs s (2 * j) + if 2 * j + 1 < i then dgs s (2 * j + 1) else 0)
theorem tmod2 (n : Nat) : Int.tmod (n : Int) 2 = ((n % 2 : Nat) : Int) := by rw [tmod_eq _ _ (by omega), if_pos (by omega)]; omega
theorem tmod4 (n : Nat) : Int.tmod (n : Int) 4 = ((n % 4 : Nat) : Int) := by rw [tmod_eq _ _ (by omega), if_pos (by omega)]; omega
def wv (f : Nat → Nat) (a : Nat) : Nat → Nat
  | 0 => 0
  | n + 1 => 2 * wv f a n + f (a + n)
theorem wv_lt {f : Nat → Nat} (hf : ∀ k, f k < 2) (a n : Nat) : wv f a n < 2 ^ n := by
  induction n with
  | zero => simp [wv]
  | succ n ih => have := hf (a + n); simp only [wv, Nat.pow_succ]; omega
theorem wv_add (f : Nat → Nat) (a n m : Nat) : wv f a (n + m) = wv f a n * 2 ^ m + wv f (a + n) m := by
  induction m with
  | zero => simp [wv]
  | succ m ih =>
    show 2 * wv f a (n + m) + f (a + (n + m)) = wv f a n * 2 ^ (m + 1) + (2 * wv f (a + n) m + f (a + n + m))
    rw [ih, Nat.pow_succ, ← Nat.mul_assoc, Nat.add_assoc a n m]
    omega
theorem wv_num (f : Nat → Nat) (a : Nat) : ∀ (n N : Nat), (∀ j, j < n → f (a + j) = N / 2 ^ (n - 1 - j) % 2) → wv f a n = N % 2 ^ n := by
  intro n
  induction n with
  | zero => intro N _; simp [wv, Nat.mod_one]
  | succ n ih =>
    intro N h
    have h1 : wv f a n = (N / 2) % 2 ^ n := ih (N / 2) (fun j hj => by
      rw [h j (by omega), Nat.div_div_eq_div_mul, ← Nat.pow_succ']
      congr 3
      omega)
    have h2 := h n (by omega)
    simp only [wv, h1, h2]
    rw [show n + 1 - 1 - n = 0 from by omega, Nat.pow_zero, Nat.div_one, Nat.pow_succ', Nat.mod_mul]
    omega
theorem wv_bit {f : Nat → Nat} (hf : ∀ k, f k < 2) (a n : Nat) : ∀ j, j < n → wv f a n / 2 ^ (n - 1 - j) % 2 = f (a + j) := by
  intro j hj
  obtain ⟨m, rfl⟩ : ∃ m, n = j + 1 + m := ⟨n - j - 1, by omega⟩
  have hm := wv_lt hf (a + (j + 1)) m
  rw [wv_add, show j + 1 + m - 1 - j = m from by omega, Nat.mul_comm, Nat.mul_add_div (Nat.pow_pos (by omega)), Nat.div_eq_of_lt hm]
  have := hf (a + j)
  simp only [wv]
  omega
theorem wv_zero {f : Nat → Nat} (a n : Nat) (h : ∀ j, j < n → f (a + j) = 0) : wv f a n = 0 := by
  induction n with
  | zero => rfl
  | succ n ih => simp only [wv, h n (by omega), ih (fun j hj => h j (by omega))]
theorem zero_wv {f : Nat → Nat} (a n : Nat) (h : wv f a n = 0) : ∀ j, j < n → f (a + j) = 0 := by
  induction n with
  | zero => intro j hj; omega
  | succ n ih =>
    simp only [wv] at h
    intro j hj
    by_cases hjn : j = n
    · subst hjn; omega
    · exact ih (by omega) j (by omega)
def tbl : List UInt8 := [65, 66, 67, 68, 69, 70, 71, 72, 73, 74, 75, 76, 77, 78, 79, 80, 81, 82, 83, 84, 85, 86, 87, 88, 89, 90, 97, 98, 99, 100, 101, 102, 103, 104, 105, 106, 107, 108, 109, 110, 111, 112, 113, 114, 115, 116, 117, 118, 119, 120, 121, 122, 48, 49, 50, 51, 52, 53, 54, 55, 56, 57, 43, 47]
theorem tbl_at {i : Nat} (h : i < 64) : geti tbl (i : Int) = some (tbl.getD i 0) := by
  rw [geti_nat (xs := tbl) (by simpa [tbl] using h), getD_at _ _ _ (by simpa [tbl] using h)]
def ltN (n : Nat) : Nat := if 65 ≤ n ∧ n ≤ 90 then n - 65 else if 97 ≤ n ∧ n ≤ 122 then n - 71 else if 48 ≤ n ∧ n ≤ 57 then n + 4 else if n = 43 then 62 else if n = 47 then 63 else 64
def lt (c : UInt8) : Nat := ltN c.toNat
theorem lt_le (c : UInt8) : lt c ≤ 64 := by
  unfold lt ltN
  split
  · omega
  split
  · omega
  split
  · omega
  split
  · omega
  split <;> omega
theorem lt_tbl : ∀ i : Nat, i < 64 → lt (tbl.getD i 0) = i := by decide +kernel
theorem tbl_lt (c : UInt8) (h : lt c < 64) : tbl.getD (lt c) 0 = c := by
  have := of_bytes (p := fun c => lt c < 64 → tbl.getD (lt c) 0 = c) (by decide +kernel) c
  exact this h
theorem wletter (c : UInt8) : m_word_letter c = some (if lt c < 64 then (UInt32.ofNat (lt c), true) else (0, false)) := by
  refine of_bytes (p := fun c => m_word_letter c = some (if lt c < 64 then (UInt32.ofNat (lt c), true) else (0, false))) ?_ c
  unfold m_word_letter
  decide +kernel
theorem rletter (c : UInt8) : m_r01_Letter c = some (if lt c < 64 then (lt c : Int) else -1) := by
  unfold m_r01_Letter
  refine whileO_eq (fun i s => s = (i : Int) ∧ i ≤ lt c) _ (lt c) _ ⟨rfl, by omega⟩ ?_
  rintro i s ⟨rfl, hi⟩
  have hle := lt_le c
  show (i < lt c ∧ ∃ s', m_r01_Letter_l0 c (i : Int) = some (.inl s') ∧ s' = ((i + 1 : Nat) : Int) ∧ i + 1 ≤ lt c) ∨ _
  unfold m_r01_Letter_l0
  simp only []
  by_cases h64 : i < 64
  · have e := tbl_at h64
    unfold tbl at e
    rw [if_pos (by omega), e]
    simp only [Option.bind_some]
    by_cases hc : i = lt c
    · right
      subst hc
      have := tbl_lt c h64
      unfold tbl at this
      rw [if_pos this, if_pos h64]
      rfl
    · left
      refine ⟨by omega, _, ?_, rfl, by omega⟩
      have hne : ¬ tbl.getD i 0 = c := by
        intro h
        have := lt_tbl i h64
        rw [h] at this
        omega
      unfold tbl at hne
      rw [if_neg hne, w64_id (by omega)]
      rfl
  · right
    rw [if_neg (by omega), if_neg (by omega)]
    rfl
def bit (b : List UInt8) (k : Nat) : Nat := (b.getD (k / 8) 0).toNat / 2 ^ (7 - k % 8) % 2
theorem bit_lt (b : List UInt8) (k : Nat) : bit b k < 2 := Nat.mod_lt _ (by omega)
theorem getD_out {α : Type} (l : List α) (i : Nat) (d : α) (h : l.length ≤ i) : l.getD i d = d := by
  rw [List.getD_eq_getElem?_getD, List.getElem?_eq_none h]; rfl
theorem bit_out (b : List UInt8) (k : Nat) (h : 8 * b.length ≤ k) : bit b k = 0 := by
  unfold bit
  rw [getD_out _ _ _ (by omega)]
  simp
def encN (b : List UInt8) (n : Nat) : List UInt8 := (List.range n).map fun m => tbl.getD (wv (bit b) (6 * m) 6) 0
theorem encN_len (b : List UInt8) (n : Nat) : (encN b n).length = n := by simp [encN]
theorem encN_succ (b : List UInt8) (n : Nat) : encN b n ++ [tbl.getD (wv (bit b) (6 * n) 6) 0] = encN b (n + 1) := by
  unfold encN; rw [List.range_succ, List.map_append]; rfl
def enc (b : List UInt8) : List UInt8 := encN b ((8 * b.length + 5) / 6)
theorem wv6 (b : List UInt8) (a : Nat) : wv (bit b) a 6 < 64 := wv_lt (bit_lt b) a 6
theorem shr8_nat (x : UInt8) (k : Nat) : (shr8 x k).toNat = x.toNat / 2 ^ k := by
  simp [shr8, Nat.shiftRight_eq_div_pow]
theorem rb64_in (b : List UInt8) (hb : b.length ≤ 4194304) (i : Nat) (hi : i < b.length) :
    whileO (m_r01_Base64_l1 b (i : Int)) (encN b (8 * i / 6), ((8 * i % 6 : Nat) : Int), ((wv (bit b) (6 * (8 * i / 6)) (8 * i % 6) : Nat) : Int), 7)
      = some (.inl (encN b (8 * (i + 1) / 6), ((8 * (i + 1) % 6 : Nat) : Int), ((wv (bit b) (6 * (8 * (i + 1) / 6)) (8 * (i + 1) % 6) : Nat) : Int), ((i + 1 : Nat) : Int))) := by
  refine whileO_eq (fun j s => s = (encN b ((8 * i + j) / 6), (((8 * i + j) % 6 : Nat) : Int), ((wv (bit b) (6 * ((8 * i + j) / 6)) ((8 * i + j) % 6) : Nat) : Int), (7 : Int) - j) ∧ j ≤ 8) _ 8 _ ⟨by simp, by omega⟩ ?_
  rintro j s ⟨rfl, hj⟩
  unfold m_r01_Base64_l1
  simp only []
  by_cases hlt : j < 8
  · left
    refine ⟨hlt, (encN b ((8 * i + (j + 1)) / 6), (((8 * i + (j + 1)) % 6 : Nat) : Int), ((wv (bit b) (6 * ((8 * i + (j + 1)) / 6)) ((8 * i + (j + 1)) % 6) : Nat) : Int), (7 : Int) - ((j + 1 : Nat) : Int)), ?_, rfl, by omega⟩
    rw [if_pos (by omega), geti_nat hi, need_ok (by omega)]
    simp only [Option.bind_some]
    have hw := wv_lt (bit_lt b) (6 * ((8 * i + j) / 6)) ((8 * i + j) % 6)
    have hp6 : 2 ^ ((8 * i + j) % 6) ≤ 2 ^ 6 := Nat.pow_le_pow_right (by omega) (by omega)
    have e1 : w64 ((((8 * i + j) % 6 : Nat) : Int) + 1) = (((8 * i + j) % 6 + 1 : Nat) : Int) := by rw [w64_id (by omega)]; omega
    have ek : Int.toNat (7 - (j : Int)) = 7 - j := by omega
    have ebit : ((shr8 b[i] (7 - j)).toNat : Nat) % 2 = bit b (8 * i + j) := by
      rw [shr8_nat]
      unfold bit
      rw [show (8 * i + j) / 8 = i from by omega, show (8 * i + j) % 8 = j from by omega, getD_at _ _ _ hi]
    have e2 : Int.tmod ((shr8 b[i] (7 - j)).toNat : Int) 2 = ((bit b (8 * i + j) : Nat) : Int) := by rw [tmod2, ebit]
    have hb2 := bit_lt b (8 * i + j)
    have e3 : w64 (2 * ((wv (bit b) (6 * ((8 * i + j) / 6)) ((8 * i + j) % 6) : Nat) : Int)) = ((2 * wv (bit b) (6 * ((8 * i + j) / 6)) ((8 * i + j) % 6) : Nat) : Int) := by rw [w64_id (by omega)]; omega
    have e4 : w64 (((2 * wv (bit b) (6 * ((8 * i + j) / 6)) ((8 * i + j) % 6) : Nat) : Int) + ((bit b (8 * i + j) : Nat) : Int)) = ((wv (bit b) (6 * ((8 * i + j) / 6)) ((8 * i + j) % 6 + 1) : Nat) : Int) := by
      rw [w64_id (by omega)]
      simp only [wv]
      rw [show 6 * ((8 * i + j) / 6) + (8 * i + j) % 6 = 8 * i + j from by omega]
      omega
    rw [ek, e1, e2, e3, e4]
    have e5 : w64 (7 - (j : Int) - 1) = (7 : Int) - ((j + 1 : Nat) : Int) := by rw [w64_id (by omega)]; omega
    by_cases h6 : (8 * i + j) % 6 + 1 = 6
    · rw [if_pos (by omega), h6]
      have e6 := tbl_at (wv6 b (6 * ((8 * i + j) / 6)))
      unfold tbl at e6
      rw [e6]
      simp only [Option.bind_some]
      rw [app_ok (by rw [encN_len]; simp; omega)]
      simp only [Option.bind_some, m_r01_Base64_j0, e5]
      have q1 : (8 * i + (j + 1)) / 6 = (8 * i + j) / 6 + 1 := by omega
      have q2 : (8 * i + (j + 1)) % 6 = 0 := by omega
      rw [q1, q2, ← encN_succ]
      rfl
    · rw [if_neg (by omega)]
      simp only [m_r01_Base64_j0, e5]
      have q1 : (8 * i + (j + 1)) / 6 = (8 * i + j) / 6 := by omega
      have q2 : (8 * i + (j + 1)) % 6 = (8 * i + j) % 6 + 1 := by omega
      rw [q1, q2]
  · right
    obtain rfl : j = 8 := by omega
    rw [if_neg (by omega)]
    have e5 : w64 ((i : Int) + 1) = ((i + 1 : Nat) : Int) := by rw [w64_id (by omega)]; omega
    rw [e5]
    rfl
theorem rbase64 (b : List UInt8) (hb : b.length ≤ 4194304) : m_r01_Base64 b = some (enc b) := by
  unfold m_r01_Base64
  refine whileO_eq (fun i s => s = (encN b (8 * i / 6), ((8 * i % 6 : Nat) : Int), ((wv (bit b) (6 * (8 * i / 6)) (8 * i % 6) : Nat) : Int), (i : Int)) ∧ i ≤ b.length) _ b.length _ ⟨by simp [encN, wv], by omega⟩ ?_
  rintro i s ⟨rfl, hi⟩
  unfold m_r01_Base64_l0
  simp only []
  by_cases hlt : i < b.length
  · left
    refine ⟨hlt, _, ?_, rfl, by omega⟩
    rw [if_pos (by omega), rb64_in b hb i hlt]
  · right
    obtain rfl : i = b.length := by omega
    rw [if_neg (by omega)]
    have hw := wv_lt (bit_lt b) (6 * (8 * b.length / 6)) (8 * b.length % 6)
    have hp6 : 2 ^ (8 * b.length % 6) ≤ 2 ^ 6 := Nat.pow_le_pow_right (by omega) (by omega)
    by_cases h0 : 8 * b.length % 6 = 0
    · rw [if_neg (by omega)]
      simp only [m_r01_Base64_j1, Option.map_some, enc]
      rw [show (8 * b.length + 5) / 6 = 8 * b.length / 6 from by omega]
    · rw [if_pos (by omega)]
      have key : whileO (m_r01_Base64_l2 (encN b (8 * b.length / 6))) (((8 * b.length % 6 : Nat) : Int), ((wv (bit b) (6 * (8 * b.length / 6)) (8 * b.length % 6) : Nat) : Int)) = some (enc b) := by
        refine whileO_eq (fun j s => s = (((8 * b.length % 6 + j : Nat) : Int), ((wv (bit b) (6 * (8 * b.length / 6)) (8 * b.length % 6 + j) : Nat) : Int)) ∧ 8 * b.length % 6 + j ≤ 6) _ 6 _ ⟨by simp, by omega⟩ ?_
        rintro j s ⟨rfl, hj⟩
        unfold m_r01_Base64_l2
        simp only []
        have hw2 := wv_lt (bit_lt b) (6 * (8 * b.length / 6)) (8 * b.length % 6 + j)
        have hp62 : 2 ^ (8 * b.length % 6 + j) ≤ 2 ^ 6 := Nat.pow_le_pow_right (by omega) (by omega)
        by_cases hlt2 : 8 * b.length % 6 + j < 6
        · left
          refine ⟨by omega, _, ?_, rfl, by omega⟩
          rw [if_pos (by omega), w64_id (by omega), w64_id (by omega)]
          simp only [Option.some.injEq, Sum.inl.injEq, Prod.mk.injEq, true_and]
          refine ⟨by omega, ?_⟩
          rw [← Nat.add_assoc]
          simp only [wv]
          rw [bit_out b _ (by omega)]
          omega
        · right
          have hj6 : 8 * b.length % 6 + j = 6 := by omega
          rw [hj6, if_neg (by omega)]
          have e6 := tbl_at (wv6 b (6 * (8 * b.length / 6)))
          unfold tbl at e6
          rw [e6]
          simp only [Option.bind_some]
          rw [app_ok (by rw [encN_len]; simp; omega)]
          simp only [Option.bind_some, m_r01_Base64_j1, Option.map_some, enc]
          rw [show (8 * b.length + 5) / 6 = 8 * b.length / 6 + 1 from by omega, ← encN_succ]
          rfl
      rw [key]
      rfl
theorem bits24 (x y z : Nat) (hx : x < 256) (hy : y < 256) (hz : z < 256) (q : Nat) (hq : q < 24) :
    (x * 65536 + y * 256 + z) / 2 ^ (23 - q) % 2 = (if q / 8 = 0 then x else if q / 8 = 1 then y else z) / 2 ^ (7 - q % 8) % 2 := by
  have : q = 0 ∨ q = 1 ∨ q = 2 ∨ q = 3 ∨ q = 4 ∨ q = 5 ∨ q = 6 ∨ q = 7 ∨ q = 8 ∨ q = 9 ∨ q = 10 ∨ q = 11 ∨ q = 12 ∨ q = 13 ∨ q = 14 ∨ q = 15 ∨ q = 16 ∨ q = 17 ∨ q = 18 ∨ q = 19 ∨ q = 20 ∨ q = 21 ∨ q = 22 ∨ q = 23 := by omega
  rcases this with rfl | rfl | rfl | rfl | rfl | rfl | rfl | rfl | rfl | rfl | rfl | rfl | rfl | rfl | rfl | rfl | rfl | rfl | rfl | rfl | rfl | rfl | rfl | rfl <;>
    (simp only [Nat.reduceSub, Nat.reducePow, Nat.reduceDiv, Nat.reduceMod, reduceIte, Nat.reduceEqDiff, Nat.succ_ne_self, Nat.div_one]; omega)
theorem or16 (x : UInt8) : (shl32 (UInt32.ofNat x.toNat) ((16 : UInt64).toNat)).toNat = x.toNat * 65536 := by
  have hx := x.toNat_lt
  simp only [shl32, ← UInt32.toNat_toBitVec, BitVec.toNat_shiftLeft]
  simp only [UInt32.toNat_toBitVec, UInt32.toNat_ofNat', show (16 : UInt64).toNat = 16 from rfl, Nat.shiftLeft_eq]
  omega
theorem or16_8 (v : UInt32) (x y : UInt8) (hv : v.toNat = x.toNat * 65536) : (v ||| shl32 (UInt32.ofNat y.toNat) ((8 : UInt64).toNat)).toNat = x.toNat * 65536 + y.toNat * 256 := by
  have hx := x.toNat_lt
  have hy := y.toNat_lt
  have e : (shl32 (UInt32.ofNat y.toNat) ((8 : UInt64).toNat)).toNat = y.toNat * 256 := by
    simp only [shl32, ← UInt32.toNat_toBitVec, BitVec.toNat_shiftLeft]
    simp only [UInt32.toNat_toBitVec, UInt32.toNat_ofNat', show (8 : UInt64).toNat = 8 from rfl, Nat.shiftLeft_eq]
    omega
  rw [UInt32.toNat_or, hv, e, show x.toNat * 65536 = x.toNat <<< 16 from by rw [Nat.shiftLeft_eq], ← Nat.shiftLeft_add_eq_or_of_lt (by omega)]
theorem or16_0 (v : UInt32) (n : Nat) (y : UInt8) (hv : v.toNat = n * 256) : (v ||| UInt32.ofNat y.toNat).toNat = n * 256 + y.toNat := by
  have hy := y.toNat_lt
  rw [UInt32.toNat_or, hv, show n * 256 = n <<< 8 from by rw [Nat.shiftLeft_eq]]
  have e : (UInt32.ofNat y.toNat).toNat = y.toNat := by simp only [UInt32.toNat_ofNat']; omega
  rw [e, ← Nat.shiftLeft_add_eq_or_of_lt (by omega)]
theorem w_let (b : List UInt8) (j k : Nat) (hk : k < 4) (v : UInt32) (hv : v.toNat = (b.getD (3 * j) 0).toNat * 65536 + (b.getD (3 * j + 1) 0).toNat * 256 + (b.getD (3 * j + 2) 0).toNat) :
    ((shr32 v (18 - 6 * k)) &&& 63).toNat = wv (bit b) (6 * (4 * j + k)) 6 := by
  have e1 : ((shr32 v (18 - 6 * k)) &&& 63).toNat = (v.toNat / 2 ^ (18 - 6 * k)) % 64 := by
    rw [UInt32.toNat_and]
    have : (shr32 v (18 - 6 * k)).toNat = v.toNat / 2 ^ (18 - 6 * k) := by simp [shr32, Nat.shiftRight_eq_div_pow]
    rw [this]
    exact Nat.and_two_pow_sub_one_eq_mod _ 6
  rw [e1]
  symm
  apply wv_num
  intro t ht
  have h24 := bits24 _ _ _ (b.getD (3 * j) 0).toNat_lt (b.getD (3 * j + 1) 0).toNat_lt (b.getD (3 * j + 2) 0).toNat_lt (6 * k + t) (by omega)
  rw [← hv] at h24
  rw [Nat.div_div_eq_div_mul, ← Nat.pow_add, show 18 - 6 * k + (6 - 1 - t) = 23 - (6 * k + t) from by omega, h24]
  unfold bit
  have q1 : (6 * (4 * j + k) + t) / 8 = 3 * j + (6 * k + t) / 8 := by omega
  have q2 : (6 * (4 * j + k) + t) % 8 = (6 * k + t) % 8 := by omega
  rw [q1, q2]
  have q3 : (6 * k + t) / 8 = 0 ∨ (6 * k + t) / 8 = 1 ∨ (6 * k + t) / 8 = 2 := by omega
  rcases q3 with h | h | h <;> simp [h]
theorem w_in (b : List UInt8) (hb : b.length ≤ 4194304) (j n : Nat) (hj : 3 * j < b.length) (hn : n = min 3 (b.length - 3 * j)) (v : UInt32) (hv : v.toNat = (b.getD (3 * j) 0).toNat * 65536 + (b.getD (3 * j + 1) 0).toNat * 256 + (b.getD (3 * j + 2) 0).toNat) :
    m_word_Base64_j2 b (encN b (4 * j)) ((3 * j : Nat) : Int) v = some (.inl (encN b (4 * j + n + 1), ((3 * (j + 1) : Nat) : Int))) := by
  unfold m_word_Base64_j2
  have en : (if w64 (((b.length : Nat) : Int) - ((3 * j : Nat) : Int)) < 3 then w64 (((b.length : Nat) : Int) - ((3 * j : Nat) : Int)) else 3) = (n : Int) := by
    rw [w64_id (by omega)]
    split <;> omega
  refine whileO_eq (fun k s => s = (encN b (4 * j + k), (k : Int)) ∧ k ≤ n + 1) _ (n + 1) _ ⟨by simp, by omega⟩ ?_
  rintro k s ⟨rfl, hk⟩
  unfold m_word_Base64_l1
  simp only []
  rw [en]
  have e1 : w64 ((n : Int) + 1) = ((n + 1 : Nat) : Int) := by rw [w64_id (by omega)]; omega
  rw [e1]
  by_cases hlt : k < n + 1
  · left
    refine ⟨hlt, _, ?_, rfl, by omega⟩
    have e2 : w64 (6 * (k : Int)) = ((6 * k : Nat) : Int) := by rw [w64_id (by omega)]; omega
    have e3 : w64 (18 - ((6 * k : Nat) : Int)) = ((18 - 6 * k : Nat) : Int) := by rw [w64_id (by omega)]; omega
    rw [if_pos (by omega), e2, e3, need_ok (by omega)]
    simp only [Option.bind_some, Int.toNat_natCast]
    rw [w_let b j k (by omega) v hv]
    have e6 := tbl_at (wv6 b (6 * (4 * j + k)))
    unfold tbl at e6
    rw [e6]
    simp only [Option.bind_some]
    rw [app_ok (by rw [encN_len]; simp; omega), w64_id (by omega)]
    simp only [Option.bind_some]
    rw [← Nat.add_assoc, ← encN_succ]
    rfl
  · right
    obtain rfl : k = n + 1 := by omega
    rw [if_neg (by omega)]
    simp only [m_word_Base64_j0, Option.map_some]
    have e4 : w64 (((3 * j : Nat) : Int) + 3) = ((3 * (j + 1) : Nat) : Int) := by rw [w64_id (by omega)]; omega
    rw [e4]
    rfl
theorem wbase64 (b : List UInt8) (hb : b.length ≤ 4194304) : m_word_Base64 b = some (enc b) := by
  unfold m_word_Base64
  refine whileO_eq (fun j s => s = (encN b (min (4 * j) ((8 * b.length + 5) / 6)), ((3 * j : Nat) : Int))) _ b.length _ (by simp [encN]) ?_
  rintro j s rfl
  unfold m_word_Base64_l0
  simp only []
  by_cases hlt : 3 * j < b.length
  · left
    refine ⟨by omega, (encN b (min (4 * (j + 1)) ((8 * b.length + 5) / 6)), ((3 * (j + 1) : Nat) : Int)), ?_, rfl⟩
    rw [if_pos (by omega), geti_nat hlt]
    simp only [Option.bind_some]
    have e1 : w64 (((b.length : Nat) : Int) - ((3 * j : Nat) : Int)) = ((b.length - 3 * j : Nat) : Int) := by rw [w64_id (by omega)]; omega
    rw [show min (4 * j) ((8 * b.length + 5) / 6) = 4 * j from by omega]
    have g0 : b.getD (3 * j) 0 = b[3 * j] := getD_at _ _ _ hlt
    have h16 := or16 b[3 * j]
    by_cases h1 : 3 * j + 1 < b.length
    · rw [e1, if_pos (by split <;> omega)]
      have e2 : w64 (((3 * j : Nat) : Int) + 1) = ((3 * j + 1 : Nat) : Int) := by rw [w64_id (by omega)]; omega
      rw [e2, geti_nat h1]
      simp only [Option.bind_some]
      have g1 : b.getD (3 * j + 1) 0 = b[3 * j + 1] := getD_at _ _ _ h1
      have h8 := or16_8 _ b[3 * j] b[3 * j + 1] h16
      unfold m_word_Base64_j1
      rw [e1]
      by_cases h2 : 3 * j + 2 < b.length
      · rw [if_pos (by split <;> omega)]
        have e3 : w64 (((3 * j : Nat) : Int) + 2) = ((3 * j + 2 : Nat) : Int) := by rw [w64_id (by omega)]; omega
        rw [e3, geti_nat h2]
        simp only [Option.bind_some]
        have g2 : b.getD (3 * j + 2) 0 = b[3 * j + 2] := getD_at _ _ _ h2
        have h0 := or16_0 _ (b[3 * j].toNat * 256 + b[3 * j + 1].toNat) b[3 * j + 2] (by rw [h8]; omega)
        rw [show min (4 * (j + 1)) ((8 * b.length + 5) / 6) = 4 * j + 3 + 1 from by omega]
        exact w_in b hb j 3 hlt (by omega) _ (by rw [h0, g0, g1, g2]; omega)
      · rw [if_neg (by split <;> omega)]
        have g2 : b.getD (3 * j + 2) 0 = 0 := getD_out _ _ _ (by omega)
        rw [show min (4 * (j + 1)) ((8 * b.length + 5) / 6) = 4 * j + 2 + 1 from by omega]
        exact w_in b hb j 2 hlt (by omega) _ (by rw [h8, g0, g1, g2]; simp)
    · rw [e1, if_neg (by split <;> omega)]
      unfold m_word_Base64_j1
      rw [e1, if_neg (by split <;> omega)]
      have g1 : b.getD (3 * j + 1) 0 = 0 := getD_out _ _ _ (by omega)
      have g2 : b.getD (3 * j + 2) 0 = 0 := getD_out _ _ _ (by omega)
      rw [show min (4 * (j + 1)) ((8 * b.length + 5) / 6) = 4 * j + 1 + 1 from by omega]
      exact w_in b hb j 1 hlt (by omega) _ (by rw [h16, g0, g1, g2]; simp)
  · right
    rw [if_neg (by omega)]
    simp only [Option.map_some, enc]
    rw [show min (4 * j) ((8 * b.length + 5) / 6) = (8 * b.length + 5) / 6 from by omega]
def lb (s : List UInt8) (k : Nat) : Nat := lt (s.getD (k / 6) 0) / 2 ^ (5 - k % 6) % 2
theorem lb_lt (s : List UInt8) (k : Nat) : lb s k < 2 := Nat.mod_lt _ (by omega)
theorem lb_out (s : List UInt8) (k : Nat) (h : 6 * s.length ≤ k) : lb s k = 0 := by
  unfold lb
  rw [getD_out _ _ _ (by omega), show lt 0 = 64 from by decide]
  have : k % 6 = 0 ∨ k % 6 = 1 ∨ k % 6 = 2 ∨ k % 6 = 3 ∨ k % 6 = 4 ∨ k % 6 = 5 := by omega
  rcases this with h | h | h | h | h | h <;> rw [h]
theorem lb_wv (s : List UInt8) (i : Nat) (hi : i < s.length) (h : lt s[i] < 64) : wv (lb s) (6 * i) 6 = lt s[i] := by
  rw [wv_num (lb s) (6 * i) 6 (lt s[i])]
  · exact Nat.mod_eq_of_lt (by omega)
  · intro j hj
    unfold lb
    rw [show (6 * i + j) / 6 = i from by omega, show (6 * i + j) % 6 = j from by omega, getD_at _ _ _ hi]
def decN (f : Nat → Nat) (n : Nat) : List UInt8 := (List.range n).map fun m => UInt8.ofNat (wv f (8 * m) 8)
theorem decN_len (f : Nat → Nat) (n : Nat) : (decN f n).length = n := by simp [decN]
theorem decN_succ (f : Nat → Nat) (n : Nat) : decN f n ++ [UInt8.ofNat (wv f (8 * n) 8)] = decN f (n + 1) := by
  unfold decN; rw [List.range_succ, List.map_append]; rfl
def badL (s : List UInt8) : Nat := s.findIdx (fun c => decide (64 ≤ lt c))
theorem badL_le (s : List UInt8) : badL s ≤ s.length := List.findIdx_le_length
theorem badL_ok (s : List UInt8) (i : Nat) (h : i < badL s) (hi : i < s.length) : lt s[i] < 64 := by
  have := List.not_of_lt_findIdx h
  simp only [decide_eq_false_iff_not] at this
  omega
theorem badL_at (s : List UInt8) (h : badL s < s.length) : lt s[badL s] = 64 := by
  have := List.findIdx_getElem (w := h)
  simp only [decide_eq_true_eq] at this
  have := lt_le s[badL s]
  simp only [badL] at *
  omega
def unb64 (s : List UInt8) : List UInt8 × Int × Int :=
  if badL s < s.length then ([], (badL s : Int), 4) else if s.length % 4 = 1 then ([], (s.length : Int), 4) else
  if wv (lb s) (8 * (6 * s.length / 8)) (6 * s.length % 8) ≠ 0 then ([], (s.length : Int) - 1, 4) else (decN (lb s) (6 * s.length / 8), 0, 0)
theorem p7 (r : Nat) (h : r ≤ 7) : ((shl32 1 r) - 1).toNat = 2 ^ r - 1 := by
  have : ∀ r : Nat, r < 8 → ((shl32 1 r) - 1).toNat = 2 ^ r - 1 := by decide +kernel
  exact this r (by omega)
theorem u32_of {a b : UInt32} (h : a.toNat = b.toNat) : a = b := UInt32.toNat_inj.1 h
theorem wunb64 (s : List UInt8) (hs : s.length ≤ 4194304) : m_word_UnBase64 s = some (unb64 s) := by
  unfold m_word_UnBase64
  have hbl := badL_le s
  refine whileO_eq (fun i x => x = (decN (lb s) (6 * i / 8), ((6 * i % 8 : Nat) : Int), UInt32.ofNat (wv (lb s) (8 * (6 * i / 8)) (6 * i % 8)), (i : Int)) ∧ i ≤ badL s) _ (badL s) _ ⟨by simp [decN, wv], by omega⟩ ?_
  rintro i x ⟨rfl, hi⟩
  unfold m_word_UnBase64_l0
  simp only []
  have hw := wv_lt (lb_lt s) (8 * (6 * i / 8)) (6 * i % 8)
  have hp6 : 2 ^ (6 * i % 8) ≤ 2 ^ 6 := Nat.pow_le_pow_right (by omega) (by omega)
  by_cases hlt : i < s.length
  · rw [if_pos (by omega), geti_nat hlt]
    simp only [Option.bind_some, wletter]
    have e3 : w64 ((i : Int) + 1) = ((i + 1 : Nat) : Int) := by rw [w64_id (by omega)]; omega
    by_cases hb : i < badL s
    · left
      have hd := badL_ok s i hb hlt
      refine ⟨hb, (decN (lb s) (6 * (i + 1) / 8), ((6 * (i + 1) % 8 : Nat) : Int), UInt32.ofNat (wv (lb s) (8 * (6 * (i + 1) / 8)) (6 * (i + 1) % 8)), ((i + 1 : Nat) : Int)), ?_, rfl, by omega⟩
      rw [if_pos hd]
      simp only [Bool.not_true, Bool.false_eq_true, if_false]
      -- the word with six bits more
      have hv : (shl32 (UInt32.ofNat (wv (lb s) (8 * (6 * i / 8)) (6 * i % 8))) ((6 : UInt64).toNat) ||| UInt32.ofNat (lt s[i])).toNat = wv (lb s) (8 * (6 * i / 8)) (6 * i % 8 + 6) := by
        rw [wv_add, show 8 * (6 * i / 8) + 6 * i % 8 = 6 * i from by omega, lb_wv s i hlt hd]
        have e1 : (shl32 (UInt32.ofNat (wv (lb s) (8 * (6 * i / 8)) (6 * i % 8))) ((6 : UInt64).toNat)).toNat = wv (lb s) (8 * (6 * i / 8)) (6 * i % 8) * 64 := by
          simp only [shl32, ← UInt32.toNat_toBitVec, BitVec.toNat_shiftLeft]
          simp only [UInt32.toNat_toBitVec, UInt32.toNat_ofNat', show (6 : UInt64).toNat = 6 from rfl, Nat.shiftLeft_eq]
          omega
        have e2 : (UInt32.ofNat (lt s[i])).toNat = lt s[i] := by simp only [UInt32.toNat_ofNat']; omega
        rw [UInt32.toNat_or, e1, e2, show wv (lb s) (8 * (6 * i / 8)) (6 * i % 8) * 64 = wv (lb s) (8 * (6 * i / 8)) (6 * i % 8) <<< 6 from by rw [Nat.shiftLeft_eq], ← Nat.shiftLeft_add_eq_or_of_lt (by omega), Nat.shiftLeft_eq]
      generalize shl32 (UInt32.ofNat (wv (lb s) (8 * (6 * i / 8)) (6 * i % 8))) ((6 : UInt64).toNat) ||| UInt32.ofNat (lt s[i]) = v at hv
      have e4 : w64 (((6 * i % 8 : Nat) : Int) + 6) = ((6 * i % 8 + 6 : Nat) : Int) := by rw [w64_id (by omega)]; omega
      rw [e4]
      by_cases h8 : 8 ≤ 6 * i % 8 + 6
      · have e5 : w64 (((6 * i % 8 + 6 : Nat) : Int) - 8) = ((6 * i % 8 - 2 : Nat) : Int) := by rw [w64_id (by omega)]; omega
        rw [if_pos (by omega), e5, need_ok (by omega)]
        simp only [Option.bind_some, Int.toNat_natCast]
        have q0 : 6 * i % 8 + 6 = 8 + (6 * i % 8 - 2) := by omega
        rw [q0, wv_add] at hv
        have hw2 := wv_lt (lb_lt s) (8 * (6 * i / 8) + 8) (6 * i % 8 - 2)
        have hpr : 2 ^ (6 * i % 8 - 2) ≤ 2 ^ 4 := Nat.pow_le_pow_right (by omega) (by omega)
        have q1 : UInt8.ofNat (shr32 v (6 * i % 8 - 2)).toNat = UInt8.ofNat (wv (lb s) (8 * (6 * i / 8)) 8) := by
          have : (shr32 v (6 * i % 8 - 2)).toNat = v.toNat / 2 ^ (6 * i % 8 - 2) := by simp [shr32, Nat.shiftRight_eq_div_pow]
          rw [this, hv, Nat.mul_comm, Nat.mul_add_div (Nat.pow_pos (by omega)), Nat.div_eq_of_lt hw2, Nat.add_zero]
        have q2 : v &&& (shl32 1 (6 * i % 8 - 2) - 1) = UInt32.ofNat (wv (lb s) (8 * (6 * i / 8) + 8) (6 * i % 8 - 2)) := by
          apply u32_of
          rw [UInt32.toNat_and, p7 _ (by omega), Nat.and_two_pow_sub_one_eq_mod, hv, Nat.mul_comm, Nat.mul_add_mod, Nat.mod_eq_of_lt hw2]
          simp only [UInt32.toNat_ofNat']
          omega
        rw [q1, q2, app_ok (by rw [decN_len]; simp; omega)]
        simp only [Option.bind_some, m_word_UnBase64_j0]
        rw [decN_succ, e3]
        rw [show 6 * (i + 1) / 8 = 6 * i / 8 + 1 from by omega, show 6 * (i + 1) % 8 = 6 * i % 8 - 2 from by omega, show 8 * (6 * i / 8 + 1) = 8 * (6 * i / 8) + 8 from by omega]
      · rw [if_neg (by omega)]
        simp only [m_word_UnBase64_j0]
        rw [e3, show 6 * (i + 1) / 8 = 6 * i / 8 from by omega, show 6 * (i + 1) % 8 = 6 * i % 8 + 6 from by omega, ← hv]
        simp
    · right
      obtain rfl : i = badL s := by omega
      have hd := badL_at s hlt
      rw [if_neg (show ¬ lt s[badL s] < 64 from by omega)]
      simp only [Bool.not_false, if_true, Option.map_some]
      rw [unb64, if_pos hlt]
  · right
    have hi' : i = s.length := by omega
    subst hi'
    rw [if_neg (by omega), tmod4]
    rw [unb64, if_neg (show ¬ badL s < s.length from by omega)]
    by_cases h2 : s.length % 4 = 1
    · rw [if_pos (show ((s.length % 4 : Nat) : Int) = 1 from by omega), if_pos h2]; rfl
    · rw [if_neg (show ¬ ((s.length % 4 : Nat) : Int) = 1 from by omega), if_neg h2]
      by_cases h0 : wv (lb s) (8 * (6 * s.length / 8)) (6 * s.length % 8) = 0
      · rw [if_neg (by rw [h0]; decide), if_neg (by simpa using h0)]; rfl
      · have hne : UInt32.ofNat (wv (lb s) (8 * (6 * s.length / 8)) (6 * s.length % 8)) ≠ 0 := by
          intro h
          have := congrArg UInt32.toNat h
          simp only [UInt32.toNat_ofNat', show (0 : UInt32).toNat = 0 from rfl] at this
          omega
        rw [if_pos hne, if_pos h0, w64_id (by omega)]
        rfl
theorem runb_in (s : List UInt8) (hs : s.length ≤ 4194304) (i : Nat) (hi : i < s.length) (hd : lt s[i] < 64) :
    whileO (m_r01_UnBase64_l2 s (i : Int)) (decN (lb s) (6 * i / 8), ((6 * i % 8 : Nat) : Int), ((wv (lb s) (8 * (6 * i / 8)) (6 * i % 8) : Nat) : Int), 5)
      = some (.inl (decN (lb s) (6 * (i + 1) / 8), ((6 * (i + 1) % 8 : Nat) : Int), ((wv (lb s) (8 * (6 * (i + 1) / 8)) (6 * (i + 1) % 8) : Nat) : Int), ((i + 1 : Nat) : Int))) := by
  refine whileO_eq (fun j x => x = (decN (lb s) ((6 * i + j) / 8), (((6 * i + j) % 8 : Nat) : Int), ((wv (lb s) (8 * ((6 * i + j) / 8)) ((6 * i + j) % 8) : Nat) : Int), (5 : Int) - j) ∧ j ≤ 6) _ 6 _ ⟨by simp, by omega⟩ ?_
  rintro j x ⟨rfl, hj⟩
  unfold m_r01_UnBase64_l2
  simp only []
  by_cases hlt : j < 6
  · left
    refine ⟨hlt, (decN (lb s) ((6 * i + (j + 1)) / 8), (((6 * i + (j + 1)) % 8 : Nat) : Int), ((wv (lb s) (8 * ((6 * i + (j + 1)) / 8)) ((6 * i + (j + 1)) % 8) : Nat) : Int), (5 : Int) - ((j + 1 : Nat) : Int)), ?_, rfl, by omega⟩
    rw [if_pos (by omega), geti_nat hi]
    simp only [Option.bind_some, rletter]
    rw [if_pos hd, need_ok (by omega)]
    simp only [Option.bind_some]
    have hw := wv_lt (lb_lt s) (8 * ((6 * i + j) / 8)) ((6 * i + j) % 8)
    have hp6 : 2 ^ ((6 * i + j) % 8) ≤ 2 ^ 7 := Nat.pow_le_pow_right (by omega) (by omega)
    have e1 : w64 ((((6 * i + j) % 8 : Nat) : Int) + 1) = (((6 * i + j) % 8 + 1 : Nat) : Int) := by rw [w64_id (by omega)]; omega
    have ek : Int.toNat (5 - (j : Int)) = 5 - j := by omega
    have esh : shrI .i64 ((lt s[i] : Nat) : Int) (5 - j) = ((lt s[i] / 2 ^ (5 - j) : Nat) : Int) := by
      unfold shrI
      rw [Nat.min_eq_left (by simp [IntKind.bits]; omega), Int.fdiv_eq_ediv_of_nonneg _ (by have : (0 : Int) < 2 ^ (5 - j) := Int.pow_pos (by omega); omega)]
      simp
    have e2 : Int.tmod (shrI .i64 ((lt s[i] : Nat) : Int) (5 - j)) 2 = ((lb s (6 * i + j) : Nat) : Int) := by
      rw [esh, tmod2]
      unfold lb
      rw [show (6 * i + j) / 6 = i from by omega, show (6 * i + j) % 6 = j from by omega, getD_at _ _ _ hi]
    have hb2 := lb_lt s (6 * i + j)
    have e3 : w64 (2 * ((wv (lb s) (8 * ((6 * i + j) / 8)) ((6 * i + j) % 8) : Nat) : Int)) = ((2 * wv (lb s) (8 * ((6 * i + j) / 8)) ((6 * i + j) % 8) : Nat) : Int) := by rw [w64_id (by omega)]; omega
    have e4 : w64 (((2 * wv (lb s) (8 * ((6 * i + j) / 8)) ((6 * i + j) % 8) : Nat) : Int) + ((lb s (6 * i + j) : Nat) : Int)) = ((wv (lb s) (8 * ((6 * i + j) / 8)) ((6 * i + j) % 8 + 1) : Nat) : Int) := by
      rw [w64_id (by omega)]
      simp only [wv]
      rw [show 8 * ((6 * i + j) / 8) + (6 * i + j) % 8 = 6 * i + j from by omega]
      omega
    rw [ek, e1, e2, e3, e4]
    have e5 : w64 (5 - (j : Int) - 1) = (5 : Int) - ((j + 1 : Nat) : Int) := by rw [w64_id (by omega)]; omega
    by_cases h6 : (6 * i + j) % 8 + 1 = 8
    · rw [if_pos (by omega), h6]
      rw [app_ok (by rw [decN_len]; simp; omega)]
      simp only [Option.bind_some, m_r01_UnBase64_j0, e5]
      have q1 : (6 * i + (j + 1)) / 8 = (6 * i + j) / 8 + 1 := by omega
      have q2 : (6 * i + (j + 1)) % 8 = 0 := by omega
      have q3 : ∀ n : Nat, UInt8.ofInt (n : Int) = UInt8.ofNat n := by
        intro n
        apply UInt8.eq_of_toBitVec_eq; apply BitVec.eq_of_toNat_eq
        simp [UInt8.ofInt]
        omega
      rw [q1, q2, ← decN_succ, q3]
      rfl
    · rw [if_neg (by omega)]
      simp only [m_r01_UnBase64_j0, e5]
      have q1 : (6 * i + (j + 1)) / 8 = (6 * i + j) / 8 := by omega
      have q2 : (6 * i + (j + 1)) % 8 = (6 * i + j) % 8 + 1 := by omega
      rw [q1, q2]
  · right
    obtain rfl : j = 6 := by omega
    rw [if_neg (by omega)]
    have e5 : w64 ((i : Int) + 1) = ((i + 1 : Nat) : Int) := by rw [w64_id (by omega)]; omega
    rw [e5]
    rfl
theorem runb64 (s : List UInt8) (hs : s.length ≤ 4194304) : m_r01_UnBase64 s = some (unb64 s) := by
  unfold m_r01_UnBase64
  have hbl := badL_le s
  refine whileO_eq (fun i x => x = (i : Int) ∧ i ≤ badL s) _ (badL s) _ ⟨rfl, by omega⟩ ?_
  rintro i x ⟨rfl, hi⟩
  unfold m_r01_UnBase64_l0
  simp only []
  by_cases hlt : i < s.length
  · rw [if_pos (by omega), geti_nat hlt]
    simp only [Option.bind_some, rletter]
    by_cases hb : i < badL s
    · left
      have hd := badL_ok s i hb hlt
      refine ⟨hb, ((i + 1 : Nat) : Int), ?_, rfl, by omega⟩
      rw [if_pos hd, if_neg (by omega), w64_id (by omega)]
      congr 2
    · right
      obtain rfl : i = badL s := by omega
      have hd := badL_at s hlt
      rw [if_neg (show ¬ lt s[badL s] < 64 from by omega), if_pos (by omega)]
      rw [unb64, if_pos hlt]
      rfl
  · right
    have hi' : i = s.length := by omega
    subst hi'
    rw [if_neg (by omega), tmod4]
    rw [unb64, if_neg (show ¬ badL s < s.length from by omega)]
    by_cases h2 : s.length % 4 = 1
    · rw [if_pos (show ((s.length % 4 : Nat) : Int) = 1 from by omega), if_pos h2]; rfl
    · rw [if_neg (show ¬ ((s.length % 4 : Nat) : Int) = 1 from by omega), if_neg h2]
      have key : whileO (m_r01_UnBase64_l1 s) ([], 0, 0, 0) = some (if wv (lb s) (8 * (6 * s.length / 8)) (6 * s.length % 8) ≠ 0 then ([], (s.length : Int) - 1, 4) else (decN (lb s) (6 * s.length / 8), 0, 0)) := by
        refine whileO_eq (fun i x => x = (decN (lb s) (6 * i / 8), ((6 * i % 8 : Nat) : Int), ((wv (lb s) (8 * (6 * i / 8)) (6 * i % 8) : Nat) : Int), (i : Int)) ∧ i ≤ s.length) _ s.length _ ⟨by simp [decN, wv], by omega⟩ ?_
        rintro i x ⟨rfl, hi⟩
        unfold m_r01_UnBase64_l1
        simp only []
        by_cases hlt : i < s.length
        · left
          refine ⟨hlt, _, ?_, rfl, by omega⟩
          rw [if_pos (by omega), runb_in s hs i hlt (badL_ok s i (by omega) hlt)]
        · right
          obtain rfl : i = s.length := by omega
          rw [if_neg (by omega)]
          by_cases h0 : wv (lb s) (8 * (6 * s.length / 8)) (6 * s.length % 8) = 0
          · rw [if_neg (by rw [h0]; decide), if_neg (by simpa using h0)]; rfl
          · rw [if_pos (by omega), if_pos h0, w64_id (by omega)]
            rfl
      rw [key]
      rfl
theorem unb64_le (s : List UInt8) : (unb64 s).1.length ≤ s.length := by
  unfold unb64
  split
  · simp
  split
  · simp
  split
  · simp
  · simp only [decN_len]; omega
theorem enc_len (b : List UInt8) : (enc b).length = (8 * b.length + 5) / 6 := by simp [enc, encN]
theorem lb_enc (b : List UInt8) (k : Nat) : lb (enc b) k = bit b k := by
  by_cases h : k < 6 * (enc b).length
  · unfold lb
    rw [getD_at _ _ _ (by omega)]
    have e : (enc b)[k / 6]'(by omega) = tbl.getD (wv (bit b) (6 * (k / 6)) 6) 0 := by simp [enc, encN]
    rw [e, lt_tbl _ (wv6 _ _)]
    have := wv_bit (bit_lt b) (6 * (k / 6)) 6 (k % 6) (by omega)
    rw [show 6 * (k / 6) + k % 6 = k from by omega] at this
    rw [← this]
  · rw [lb_out _ _ (by omega), bit_out]
    rw [enc_len] at h
    omega
theorem decN_bit (b : List UInt8) : decN (bit b) b.length = b := by
  apply List.ext_getElem
  · rw [decN_len]
  · intro j h1 h2
    simp only [decN, List.getElem_map, List.getElem_range]
    have hx := (b[j]).toNat_lt
    rw [wv_num (bit b) (8 * j) 8 (b[j]).toNat]
    · simp
    · intro t ht
      unfold bit
      rw [show (8 * j + t) / 8 = j from by omega, show (8 * j + t) % 8 = t from by omega, getD_at _ _ _ h2]
theorem unb64_enc (b : List UInt8) : unb64 (enc b) = (b, 0, 0) := by
  have hl := enc_len b
  have hnb : ¬ badL (enc b) < (enc b).length := by
    intro h
    have h1 := badL_at _ h
    have e : (enc b)[badL (enc b)]'h = tbl.getD (wv (bit b) (6 * badL (enc b)) 6) 0 := by simp [enc, encN]
    rw [e, lt_tbl _ (wv6 _ _)] at h1
    have := wv6 b (6 * badL (enc b))
    omega
  have hf : lb (enc b) = bit b := funext (lb_enc b)
  have hn : 6 * (enc b).length / 8 = b.length := by omega
  unfold unb64
  rw [if_neg hnb, if_neg (by omega), hf, hn]
  have hz : wv (bit b) (8 * b.length) (6 * (enc b).length % 8) = 0 := wv_zero _ _ (fun j _ => bit_out b _ (by omega))
  rw [hz, if_neg (by simp), decN_bit]
theorem enc_unb64 (s : List UInt8) (h : (unb64 s).2.2 = 0) : enc (unb64 s).1 = s := by
  unfold unb64 at h ⊢
  by_cases h1 : badL s < s.length
  · rw [if_pos h1] at h; simp at h
  rw [if_neg h1] at h ⊢
  by_cases h2 : s.length % 4 = 1
  · rw [if_pos h2] at h; simp at h
  rw [if_neg h2] at h ⊢
  by_cases h3 : wv (lb s) (8 * (6 * s.length / 8)) (6 * s.length % 8) = 0
  · rw [if_neg (by simpa using h3)]
    simp only []
    have hbit : bit (decN (lb s) (6 * s.length / 8)) = lb s := by
      funext k
      by_cases hk : k < 8 * (6 * s.length / 8)
      · unfold bit
        rw [getD_at _ _ _ (by rw [decN_len]; omega)]
        simp only [decN, List.getElem_map, List.getElem_range]
        have hw := wv_lt (lb_lt s) (8 * (k / 8)) 8
        have e : (UInt8.ofNat (wv (lb s) (8 * (k / 8)) 8)).toNat = wv (lb s) (8 * (k / 8)) 8 := by
          simp only [UInt8.toNat_ofNat']; omega
        rw [e]
        have := wv_bit (lb_lt s) (8 * (k / 8)) 8 (k % 8) (by omega)
        rw [show 8 * (k / 8) + k % 8 = k from by omega] at this
        rw [← this]
      · rw [bit_out _ _ (by rw [decN_len]; omega)]
        by_cases hk2 : k < 6 * s.length
        · have := zero_wv _ _ h3 (k - 8 * (6 * s.length / 8)) (by omega)
          rw [show 8 * (6 * s.length / 8) + (k - 8 * (6 * s.length / 8)) = k from by omega] at this
          exact this.symm
        · rw [lb_out _ _ (by omega)]
    apply List.ext_getElem
    · rw [enc_len, decN_len]
      obtain ⟨q, r, hq, hr⟩ : ∃ q r, s.length = 4 * q + r ∧ (r = 0 ∨ r = 2 ∨ r = 3) := ⟨s.length / 4, s.length % 4, by omega, by omega⟩
      rw [hq]
      rcases hr with rfl | rfl | rfl
      · rw [show 6 * (4 * q + 0) / 8 = 3 * q from by omega]; omega
      · rw [show 6 * (4 * q + 2) / 8 = 3 * q + 1 from by omega]; omega
      · rw [show 6 * (4 * q + 3) / 8 = 3 * q + 2 from by omega]; omega
    · intro j q1 q2
      have hd := badL_ok s j (by have := badL_le s; omega) q2
      simp only [enc, encN, List.getElem_map, List.getElem_range]
      rw [hbit, lb_wv s j q2 hd, tbl_lt _ hd]
  · rw [if_pos h3] at h; simp at h
end Go.Sx
