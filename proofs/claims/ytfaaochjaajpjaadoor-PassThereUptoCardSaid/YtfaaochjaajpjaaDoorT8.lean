import Derived.Test.YtfaaochjaajpjaaDoorT7
namespace Go.Sx
open Go.RowKit
set_option linter.unusedVariables false
set_option linter.unusedSimpArgs false
/-! ### a printed token is read back, and what is read prints as it stood -/
theorem lit_fwd (s : List UInt8) : ∀ (t : List UInt8) (a : Nat) (r : List UInt8), s.drop a = t ++ r → litS s a true t = (a + t.length, true) ∧ s.drop (a + t.length) = r
  | [], a, r, h => ⟨rfl, h⟩
  | c :: t, a, r, h => by
    have h1 : s[a]? = some c := by
      have := congrArg (fun l => l[0]?) h
      simpa [List.getElem?_drop] using this
    have h2 : s.drop (a + 1) = t ++ r := by
      have := congrArg (List.drop 1) h
      simpa [List.drop_drop] using this
    have ih := lit_fwd s t (a + 1) r h2
    unfold litS
    rw [if_pos rfl, if_pos h1]
    have e : a + 1 + t.length = a + (c :: t).length := by simp only [List.length_cons]; omega
    rw [e] at ih
    exact ih
theorem lit_bwd (s : List UInt8) : ∀ (t : List UInt8) (a : Nat) (ok : Bool), (litS s a ok t).2 = true → ok = true ∧ (litS s a ok t).1 = a + t.length ∧ s.drop a = t ++ s.drop (a + t.length)
  | [], a, ok, h => ⟨h, rfl, rfl⟩
  | c :: t, a, ok, h => by
    unfold litS at h ⊢
    by_cases h0 : ok = true
    · rw [if_pos h0] at h ⊢
      by_cases h1 : s[a]? = some c
      · rw [if_pos h1] at h ⊢
        obtain ⟨_, i2, i3⟩ := lit_bwd s t (a + 1) true h
        have e : a + 1 + t.length = a + (c :: t).length := by simp only [List.length_cons]; omega
        refine ⟨h0, by rw [i2, e], ?_⟩
        obtain ⟨hl, hc⟩ := List.getElem?_eq_some_iff.1 h1
        rw [List.drop_eq_getElem_cons hl, hc, i3, e]
        rfl
      · rw [if_neg h1] at h; cases h
    · rw [if_neg h0] at h; cases h
theorem dig_c : ∀ d : Nat, d < 10 → isD (UInt8.ofNat (48 + d)) = true ∧ (dv (UInt8.ofNat (48 + d))).toNat = d ∧ dv (UInt8.ofNat (48 + d)) = UInt64.ofNat d := by decide +kernel
theorem dig_u (c : UInt8) (h : isD c = true) : c = UInt8.ofNat (48 + (dv c).toNat) := by
  have key : ∀ n : Nat, n < 256 → isD (UInt8.ofNat n) = true → UInt8.ofNat n = UInt8.ofNat (48 + (dv (UInt8.ofNat n)).toNat) := by decide +kernel
  exact of_bytes (p := fun c => isD c = true → c = UInt8.ofNat (48 + (dv c).toNat)) key c h
theorem numS_in (c : UInt8) (l : List UInt8) (st : Bool) (v : UInt64) (hc : isD c = true) (h0 : (st && decide (v = 0)) = false) (h1 : v.toNat ≤ 1000000) : numS (c :: l) st v = ((numS l true (10 * v + dv c)).1, (numS l true (10 * v + dv c)).2.1 + 1, (numS l true (10 * v + dv c)).2.2) := by
  rw [numS, if_pos hc, if_neg]
  rw [h0, Bool.false_or, decide_eq_true_eq, UInt64.lt_iff_toNat_lt]
  have hd := dv_lt c hc
  have e : ((18446744073709551615 : UInt64) - dv c).toNat = 18446744073709551615 - (dv c).toNat := by
    rw [UInt64.toNat_sub_of_le]
    · rfl
    · rw [UInt64.le_iff_toNat_le]; show (dv c).toNat ≤ 18446744073709551615; omega
  rw [UInt64.toNat_div, e]
  show ¬ (18446744073709551615 - (dv c).toNat) / 10 < v.toNat
  omega
theorem u64v (n : Nat) (h : n < 18446744073709551616) : (UInt64.ofNat n).toNat = n := UInt64.toNat_ofNat_of_lt' h
theorem num_fwd0 : ∀ (n : Nat), n ≤ 1000000 → ∀ r : List UInt8, numS (Lib.decDigits n ++ r) false 0 = ((numS r true (UInt64.ofNat n)).1, (numS r true (UInt64.ofNat n)).2.1 + (Lib.decDigits n).length, (numS r true (UInt64.ofNat n)).2.2) := by
  intro n
  induction n using Nat.strongRecOn with
  | _ n ih =>
    intro hn r
    rw [Lib.decDigits]
    split
    · rename_i hlt
      obtain ⟨c1, c2, c3⟩ := dig_c n hlt
      rw [List.singleton_append, numS_in _ _ _ _ c1 rfl (by show (0 : Nat) ≤ 1000000; omega), c3]
      rw [show (10 : UInt64) * 0 + UInt64.ofNat n = UInt64.ofNat n from by rw [UInt64.mul_zero, UInt64.zero_add]]
      rfl
    · rename_i hlt
      obtain ⟨c1, c2, c3⟩ := dig_c (n % 10) (by omega)
      rw [List.append_assoc, List.singleton_append, ih (n / 10) (by omega) (by omega)]
      have hv : (UInt64.ofNat (n / 10)).toNat = n / 10 := u64v _ (by omega)
      rw [numS_in _ _ _ _ c1 (by
        rw [Bool.true_and, decide_eq_false_iff_not]
        intro q
        have := congrArg UInt64.toNat q
        rw [hv] at this
        have : n / 10 = 0 := this
        omega) (by omega)]
      have e : (10 : UInt64) * UInt64.ofNat (n / 10) + dv (UInt8.ofNat (48 + n % 10)) = UInt64.ofNat n := by
        rw [← UInt64.toNat_inj, c3, UInt64.toNat_add, UInt64.toNat_mul, hv, u64v (n % 10) (by omega), u64v n (by omega)]
        show (10 * (n / 10) % 18446744073709551616 + n % 10) % 18446744073709551616 = n
        omega
      rw [e, List.length_append, List.length_singleton]
      refine Prod.ext rfl (Prod.ext ?_ rfl)
      show _ + 1 + _ = _ + (_ + 1)
      omega
theorem num_fwd (s : List UInt8) (n : Nat) (hn : n ≤ 1000000) (a : Nat) (c : UInt8) (r : List UInt8) (hc : isD c = false) (h : s.drop a = Lib.decDigits n ++ (c :: r)) : numT s a true = (UInt64.ofNat n, a + (Lib.decDigits n).length, true) ∧ s.drop (a + (Lib.decDigits n).length) = c :: r := by
  refine ⟨?_, ?_⟩
  · unfold numT
    rw [if_pos rfl, h, num_fwd0 n hn]
    rw [show numS (c :: r) true (UInt64.ofNat n) = (UInt64.ofNat n, 0, true) from by rw [numS, if_neg (by rw [hc]; decide)]]
    show (UInt64.ofNat n, a + (0 + _), true) = _
    rw [Nat.zero_add]
  · rw [← List.drop_drop, h, List.drop_left]
theorem num_bwd1 : ∀ (l : List UInt8) (v : UInt64), (numS l true v).2.2 = true → Lib.decDigits v.toNat ++ l.take (numS l true v).2.1 = Lib.decDigits (numS l true v).1.toNat
  | [], v, h => by simp [numS]
  | c :: l, v, h => by
    by_cases hc : isD c = true
    · rw [numS, if_pos hc] at h ⊢
      by_cases hb : ((true && decide (v = 0)) || decide (((18446744073709551615 : UInt64) - dv c) / 10 < v)) = true
      · rw [if_pos hb] at h; cases h
      · rw [if_neg hb] at h ⊢
        have ih := num_bwd1 l (10 * v + dv c) h
        rw [Bool.true_and, Bool.or_eq_true, decide_eq_true_eq, decide_eq_true_eq, not_or] at hb
        have hv := num_in v c hc hb.2
        have hv0 : v.toNat ≠ 0 := fun q => hb.1 (UInt64.toNat_inj.1 q)
        have hd := dv_lt c hc
        rw [hv] at ih
        rw [show Lib.decDigits (10 * v.toNat + (dv c).toNat) = Lib.decDigits v.toNat ++ [c] from by
          rw [Lib.decDigits, dif_neg (by omega), show (10 * v.toNat + (dv c).toNat) / 10 = v.toNat from by omega, show (10 * v.toNat + (dv c).toNat) % 10 = (dv c).toNat from by omega, ← dig_u c hc]] at ih
        rw [List.take_succ_cons, ← ih, List.append_assoc]
        rfl
    · rw [numS, if_neg hc]
      simp
theorem num_bwd0 (l : List UInt8) (h : (numS l false 0).2.2 = true) : l.take (numS l false 0).2.1 = Lib.decDigits (numS l false 0).1.toNat := by
  cases l with
  | nil => cases h
  | cons c l =>
    by_cases hc : isD c = true
    · rw [numS_in c l false 0 hc rfl (by show (0 : Nat) ≤ 1000000; omega)] at h ⊢
      have hk := num_bwd1 l _ h
      rw [UInt64.mul_zero, UInt64.zero_add] at *
      have hd := dv_lt c hc
      rw [Lib.decDigits, dif_pos (by omega), ← dig_u c hc] at hk
      rw [List.take_succ_cons, ← hk]
      rfl
    · rw [numS, if_neg hc] at h; cases h
theorem num_bwd (s : List UInt8) (a : Nat) (ok : Bool) (h : (numT s a ok).2.2 = true) : ok = true ∧ s.drop a = Lib.decDigits (numT s a ok).1.toNat ++ s.drop (numT s a ok).2.1 := by
  have ho := numT_ok s a ok h
  subst ho
  refine ⟨rfl, ?_⟩
  unfold numT at h ⊢
  rw [if_pos rfl] at h ⊢
  have := num_bwd0 _ h
  dsimp only
  rw [← this, ← List.drop_drop, List.take_append_drop]
theorem kind_fwd (s : List UInt8) (K : Int) (hK : 0 ≤ K ∧ K ≤ 2) (a : Nat) (r : List UInt8) (h : s.drop a = kdS K ++ (36 :: r)) : kindS s a true = (K, a + (kdS K).length, true) ∧ s.drop (a + (kdS K).length) = 36 :: r := by
  have g : ∀ i, s[a + i]? = (kdS K ++ (36 :: r))[i]? := by
    intro i
    rw [← h, List.getElem?_drop]
  refine ⟨?_, by rw [← List.drop_drop, h, List.drop_left]⟩
  have g0 := g 0
  have g1 := g 1
  rw [Nat.add_zero] at g0
  unfold kindS
  rw [if_pos rfl, g0, g1]
  obtain rfl | rfl | rfl : K = 0 ∨ K = 1 ∨ K = 2 := by omega
  · rfl
  · rfl
  · rfl
theorem kind_bwd (s : List UInt8) (a : Nat) (ok : Bool) (h : (kindS s a ok).2.2 = true) : ok = true ∧ s.drop a = kdS (kindS s a ok).1 ++ s.drop (kindS s a ok).2.1 := by
  have at1 : ∀ (b : Nat) (c : UInt8), s[b]? = some c → s.drop b = c :: s.drop (b + 1) := by
    intro b c q
    obtain ⟨hl, hc⟩ := List.getElem?_eq_some_iff.1 q
    rw [List.drop_eq_getElem_cons hl, hc]
  unfold kindS at h ⊢
  by_cases h0 : ok = true
  · rw [if_pos h0] at h ⊢
    refine ⟨h0, ?_⟩
    by_cases h1 : s[a]? = some 105
    · rw [if_pos h1] at h ⊢
      by_cases h2 : s[a + 1]? = some 100
      · rw [if_pos h2] at h ⊢
        rw [at1 _ _ h1, at1 _ _ h2]
        rfl
      · rw [if_neg h2] at h ⊢
        rw [at1 _ _ h1]
        rfl
    · rw [if_neg h1] at h ⊢
      by_cases h3 : s[a]? = some 100
      · rw [if_pos h3] at h ⊢
        rw [at1 _ _ h3]
        rfl
      · rw [if_neg h3] at h; cases h
  · rw [if_neg h0] at h; cases h
theorem enc_isB (b : List UInt8) : ∀ c ∈ enc b, isB c = true := by
  intro c hc
  unfold enc encN at hc
  obtain ⟨m, _, rfl⟩ := List.mem_map.1 hc
  unfold isB
  have := wv6 b (6 * m)
  rw [lt_tbl _ this]
  exact decide_eq_true this
theorem tw_all {p : UInt8 → Bool} : ∀ (l r : List UInt8), (∀ c ∈ l, p c = true) → (∀ c, r[0]? = some c → p c = false) → (l ++ r).takeWhile p = l
  | [], [], _, _ => rfl
  | [], c :: r, _, h => by rw [List.nil_append, List.takeWhile_cons_of_neg (by rw [h c rfl]; decide)]
  | d :: l, r, h, h2 => by
    rw [List.cons_append, List.takeWhile_cons_of_pos (h d List.mem_cons_self), tw_all l r (fun c hc => h c (List.mem_cons_of_mem _ hc)) h2]
theorem let_fwd (s : List UInt8) (b : List UInt8) (a : Nat) (r : List UInt8) (hr : ∀ c, r[0]? = some c → isB c = false) (h : s.drop a = enc b ++ r) : letS s a true = enc b ∧ s.drop (a + (enc b).length) = r := by
  refine ⟨?_, by rw [← List.drop_drop, h, List.drop_left]⟩
  unfold letS
  rw [if_pos rfl, h, tw_all _ _ (enc_isB b) hr]
theorem let_bwd (s : List UInt8) (a : Nat) : s.drop a = letS s a true ++ s.drop (a + (letS s a true).length) := by
  unfold letS
  rw [if_pos rfl, ← List.drop_drop]
  have : ∀ (l : List UInt8), l = l.takeWhile isB ++ l.drop (l.takeWhile isB).length := by
    intro l
    have h1 := List.takeWhile_prefix (p := isB) (l := l)
    obtain ⟨t, ht⟩ := h1
    have : l.drop (l.takeWhile isB).length = t := by
      conv => lhs; rw [← ht]
      rw [ht]
      conv => lhs; arg 2; rw [← ht]
      rw [List.drop_left]
    rw [this, ht]
  exact this _
theorem whS_nat (n : Nat) (h : n ≤ 1000000) : whS (UInt64.ofNat n) = (n : Int) := by
  unfold whS
  have e := u64v n (by omega)
  rw [if_neg (by rw [UInt64.lt_iff_toNat_lt, e]; show ¬ (9223372036854775807 : Nat) < n; omega), e, w64_id] <;> omega
theorem whS_pos (v : UInt64) (h : 0 ≤ whS v) : whS v = (v.toNat : Int) := by
  unfold whS at h ⊢
  by_cases q : (9223372036854775807 : UInt64) < v
  · rw [if_pos q] at h; omega
  · rw [if_neg q]
    rw [UInt64.lt_iff_toNat_lt] at q
    have : v.toNat ≤ 9223372036854775807 := Nat.le_of_not_lt q
    rw [w64_id] <;> omega
theorem parse_text (K M P L T : Int) (salt sum : List UInt8) (h0 : chkS K M P L T salt.length = 0) (hT : ((sum.length : Nat) : Int) = T) : parseS (textS K M.toNat P.toNat L.toNat salt sum) = (K, M, P, L, T, salt, sum, 0, 0) := by
  obtain ⟨hm, hs1, hs2⟩ := chk0 h0
  have hm0 := hm
  unfold MayS at hm0
  obtain ⟨m, rfl⟩ : ∃ m : Nat, M = (m : Int) := ⟨M.toNat, by omega⟩
  obtain ⟨p, rfl⟩ : ∃ m : Nat, P = (m : Int) := ⟨P.toNat, by omega⟩
  obtain ⟨l, rfl⟩ : ∃ m : Nat, L = (m : Int) := ⟨L.toNat, by omega⟩
  simp only [Int.toNat_natCast]
  have e0 : (textS K m p l salt sum).drop 0 = [36, 97, 114, 103, 111, 110, 50] ++ (kdS K ++ (36 :: ([118, 61, 49, 57, 36, 109, 61] ++ (Lib.decDigits m ++ (44 :: ([116, 61] ++ (Lib.decDigits p ++ (44 :: ([112, 61] ++ (Lib.decDigits l ++ (36 :: (enc salt ++ (36 :: (enc sum ++ [])))))))))))))) := by
    unfold textS
    simp only [List.drop_zero, List.append_assoc, List.append_nil, List.cons_append, List.nil_append]
  generalize textS K m p l salt sum = s at e0 ⊢
  unfold parseS
  obtain ⟨a1, e1⟩ := lit_fwd s _ _ _ e0
  rw [a1]
  obtain ⟨a2, e2⟩ := kind_fwd s K hm0.1 _ _ e1
  rw [a2]
  unfold midS
  dsimp only
  obtain ⟨a3, e3⟩ := lit_fwd s [36, 118, 61, 49, 57, 36, 109, 61] _ _ e2
  rw [a3]
  dsimp only
  obtain ⟨a4, e4⟩ := num_fwd s m (by omega) _ 44 _ (by decide) e3
  rw [a4]
  dsimp only
  obtain ⟨a5, e5⟩ := lit_fwd s [44, 116, 61] _ _ e4
  rw [a5]
  dsimp only
  obtain ⟨a6, e6⟩ := num_fwd s p (by omega) _ 44 _ (by decide) e5
  rw [a6]
  dsimp only
  obtain ⟨a7, e7⟩ := lit_fwd s [44, 112, 61] _ _ e6
  rw [a7]
  dsimp only
  obtain ⟨a8, e8⟩ := num_fwd s l (by omega) _ 36 _ (by decide) e7
  rw [a8]
  dsimp only
  obtain ⟨a9, e9⟩ := lit_fwd s [36] _ _ e8
  rw [a9]
  dsimp only
  obtain ⟨a10, e10⟩ := let_fwd s salt _ (36 :: (enc sum ++ [])) (fun c hc => by cases hc; decide) e9
  rw [a10]
  obtain ⟨a11, e11⟩ := lit_fwd s [36] _ _ e10
  rw [a11]
  dsimp only
  obtain ⟨a12, e12⟩ := let_fwd s sum _ [] (fun c hc => by cases hc) e11
  rw [a12]
  have hend : s.length ≤ _ := List.drop_eq_nil_iff.1 e12
  unfold finS
  rw [if_neg (by
    rw [Bool.not_true, Bool.false_or, decide_eq_true_eq]
    omega)]
  rw [unb64_enc, unb64_enc, if_neg (fun q => q rfl), if_neg (fun q => q rfl), whS_nat m (by omega), whS_nat p (by omega), whS_nat l (by omega)]
  dsimp only
  rw [hT, if_neg (fun q => q h0)]
theorem text_parse (s : List UInt8) (h : (parseS s).2.2.2.2.2.2.2.2 = 0) : printS (parseS s).1 (parseS s).2.1 (parseS s).2.2.1 (parseS s).2.2.2.1 (parseS s).2.2.2.2.1 (parseS s).2.2.2.2.2.1 (parseS s).2.2.2.2.2.2.1 = (s, 0) := by
  unfold parseS at h ⊢
  have b0 := lit_bwd s [36, 97, 114, 103, 111, 110, 50] 0 true
  generalize litS s 0 true [36, 97, 114, 103, 111, 110, 50] = x0 at b0 h ⊢
  have b1 := kind_bwd s x0.1 x0.2
  generalize kindS s x0.1 x0.2 = kx at b1 h ⊢
  unfold midS at h ⊢
  dsimp only at h ⊢
  have b2 := lit_bwd s [36, 118, 61, 49, 57, 36, 109, 61] kx.2.1 kx.2.2
  generalize litS s kx.2.1 kx.2.2 [36, 118, 61, 49, 57, 36, 109, 61] = x1 at b2 h ⊢
  have b3 := num_bwd s x1.1 x1.2
  generalize numT s x1.1 x1.2 = n1 at b3 h ⊢
  have b4 := lit_bwd s [44, 116, 61] n1.2.1 n1.2.2
  generalize litS s n1.2.1 n1.2.2 [44, 116, 61] = x2 at b4 h ⊢
  have b5 := num_bwd s x2.1 x2.2
  generalize numT s x2.1 x2.2 = n2 at b5 h ⊢
  have b6 := lit_bwd s [44, 112, 61] n2.2.1 n2.2.2
  generalize litS s n2.2.1 n2.2.2 [44, 112, 61] = x3 at b6 h ⊢
  have b7 := num_bwd s x3.1 x3.2
  generalize numT s x3.1 x3.2 = n3 at b7 h ⊢
  have b8 := lit_bwd s [36] n3.2.1 n3.2.2
  generalize litS s n3.2.1 n3.2.2 [36] = x4 at b8 h ⊢
  have b9 := let_bwd s x4.1
  have b10 := lit_bwd s [36] (x4.1 + (letS s x4.1 x4.2).length) x4.2
  generalize litS s (x4.1 + (letS s x4.1 x4.2).length) x4.2 [36] = x5 at b10 h ⊢
  have b11 := let_bwd s x5.1
  by_cases c0 : ((!x5.2) || (decide (((x5.1 + (letS s x5.1 x5.2).length : Nat) : Int) < (s.length : Int)))) = true
  · unfold finS at h; rw [if_pos c0] at h; cases h
  · by_cases c1 : (unb64 (letS s x4.1 x4.2)).2.2 ≠ 0
    · unfold finS at h; rw [if_neg c0, if_pos c1] at h; cases h
    · by_cases c2 : (unb64 (letS s x5.1 x5.2)).2.2 ≠ 0
      · unfold finS at h; rw [if_neg c0, if_neg c1, if_pos c2] at h; cases h
      · by_cases c3 : chkS kx.1 (whS n1.1) (whS n2.1) (whS n3.1) (((unb64 (letS s x5.1 x5.2)).1.length : Nat) : Int) (unb64 (letS s x4.1 x4.2)).1.length ≠ 0
        · unfold finS at h; rw [if_neg c0, if_neg c1, if_neg c2, if_pos c3] at h; cases h
        · unfold finS
          rw [if_neg c0, if_neg c1, if_neg c2, if_neg c3]
          dsimp only
          rw [Bool.or_eq_true, not_or, Bool.not_eq_true', Bool.not_eq_false, decide_eq_true_eq] at c0
          obtain ⟨c0, c00⟩ := c0
          obtain ⟨o5, p5, q5⟩ := b10 c0
          obtain ⟨o4, p4, q4⟩ := b8 o5
          obtain ⟨o3, q3⟩ := b7 o4
          obtain ⟨o2, p2, q2⟩ := b6 o3
          obtain ⟨o1, q1⟩ := b5 o2
          obtain ⟨o0, p0, q0⟩ := b4 o1
          obtain ⟨oa, qa⟩ := b3 o0
          obtain ⟨ob, pb, qb⟩ := b2 oa
          obtain ⟨oc, qc⟩ := b1 ob
          obtain ⟨od, pd, qd⟩ := b0 oc
          rw [o5] at c1 c3 p5 q5 ⊢
          rw [c0] at c00 c2 c3 ⊢
          have c1' := enc_unb64 _ (Classical.not_not.1 c1)
          have c2' := enc_unb64 _ (Classical.not_not.1 c2)
          have c3' := Classical.not_not.1 c3
          obtain ⟨hm, hs1, hs2⟩ := chk0 c3'
          unfold MayS at hm
          unfold printS
          rw [if_neg c3, if_neg (fun q => q rfl)]
          have w1 := whS_pos n1.1 (by omega)
          have w2 := whS_pos n2.1 (by omega)
          have w3 := whS_pos n3.1 (by omega)
          rw [w1, w2, w3]
          simp only [Int.toNat_natCast]
          refine Prod.ext ?_ rfl
          show textS _ _ _ _ _ _ = s
          unfold textS
          rw [c1', c2']
          have e12 : s.drop (x5.1 + (letS s x5.1 true).length) = [] := List.drop_eq_nil_iff.2 (by omega)
          rw [e12, List.append_nil] at b11
          rw [← p5, b11] at q5
          rw [q5] at b9
          rw [← p4, b9] at q4
          rw [q4] at q3
          rw [← p2, q3] at q2
          rw [q2] at q1
          rw [← p0, q1] at q0
          rw [q0] at qa
          rw [← pb, qa] at qb
          rw [qb] at qc
          rw [← pd, qc, List.drop_zero] at qd
          conv => rhs; rw [qd]
          simp only [List.append_assoc]
theorem p_l21_PassThere (K M P L T : Int) (salt sum s : List UInt8) (hs : s.length ≤ 1048576) : m_l21_PassThere K M P L T salt sum s = some true := by
  have hj : m_l21_PassThere_j0 s = some true := by
    unfold m_l21_PassThere_j0
    rw [parse_p s (by omega), Option.bind_some]
    have ht := text_parse s
    generalize parseS s = r at ht ⊢
    by_cases h : r.2.2.2.2.2.2.2.2 ≠ 0
    · rw [if_pos h]
    · rw [if_neg h, print_p, Option.bind_some, ht (Classical.not_not.1 h)]
      simp
  unfold m_l21_PassThere
  rw [awake_ok, Option.bind_some, if_neg (by decide), print_p, Option.bind_some, rcheck, Option.bind_some]
  by_cases h0 : chkS K M P L T salt.length = 0
  · by_cases h1 : ((sum.length : Nat) : Int) = T
    · have e : printS K M P L T salt sum = (textS K M.toNat P.toNat L.toNat salt sum, 0) := by
        unfold printS
        rw [if_neg (fun q => q h0), if_neg (fun q => q h1)]
      have hl : (textS K M.toNat P.toNat L.toNat salt sum).length ≤ 4194304 := by
        obtain ⟨hm, hs1, hs2⟩ := chk0 h0
        unfold MayS at hm
        have hM := dd_len M.toNat; have hP := dd_len P.toNat; have hL := dd_len L.toNat; have hk := kd_len K
        have hes := enc_len salt; have heu := enc_len sum
        unfold textS
        simp only [List.length_append, List.length_cons, List.length_nil]
        omega
      rw [e, decide_eq_true h0, decide_eq_true h1]
      dsimp only
      rw [if_neg (by simp), if_pos (by simp), parse_p _ hl, Option.bind_some, parse_text K M P L T salt sum h0 h1]
      dsimp only
      rw [if_neg (by simp), alike_refl _ _ _ _ _ _ _ (by
        obtain ⟨hm, hs1, hs2⟩ := chk0 h0; omega) (by
        obtain ⟨hm, hs1, hs2⟩ := chk0 h0
        unfold MayS at hm; omega), Option.bind_some, if_neg (by simp), hj]
    · have e : (printS K M P L T salt sum).2 = 1 := by
        unfold printS
        rw [if_neg (fun q => q h0), if_pos h1]
      rw [e, decide_eq_false h1, Bool.and_false, if_neg (by simp), if_neg (by simp), hj]
  · have e : (printS K M P L T salt sum).2 = chkS K M P L T salt.length := by
      unfold printS
      rw [if_pos h0]
    rw [e, decide_eq_false h0, Bool.false_and, if_neg (by simp), if_neg (by simp), hj]
end Go.Sx
