import Derived.Test.YtmknbdnofogmdaaQ23
namespace Go.Sx
open Go.RowKit
set_option linter.unusedVariables false
set_option linter.unusedSimpArgs false
abbrev wtOp (z_ : Int × List UInt8 × List UInt8 × List UInt8) : Nat := max z_.2.1.length (max z_.2.2.1.length (z_.2.2.2.length))
theorem tot_take {δ : Type} (wt : δ → Nat) : ∀ (xs : List δ) (i : Nat) (h : i < xs.length), TotG wt (xs.take (i + 1)) = TotG wt (xs.take i) + wt xs[i]
  | x :: xs, 0, _ => by simp [TotG]
  | x :: xs, i + 1, h => by
    have := tot_take wt xs i (by simpa using h)
    simp only [List.take_succ_cons, TotG, List.getElem_cons_succ]
    omega
theorem tot_take_le {δ : Type} (wt : δ → Nat) : ∀ (xs : List δ) (i : Nat), TotG wt (xs.take i) ≤ TotG wt xs
  | [], i => by simp [TotG]
  | x :: xs, 0 => by simp [TotG]
  | x :: xs, i + 1 => by
    have := tot_take_le wt xs i
    simp only [List.take_succ_cons, TotG]
    omega
theorem tot_ge {δ : Type} (wt : δ → Nat) (xs : List δ) (i : Nat) (h : i < xs.length) : wt xs[i] ≤ TotG wt xs := by
  have h1 := tot_take wt xs i h
  have h2 := tot_take_le wt xs (i + 1)
  omega
abbrev own3 : List UInt8 := [111, 119, 110]
/-- what the script leaves -/
def Inv (k n : Int) (key : List UInt8) (script : List (Int × List UInt8 × List UInt8 × List UInt8)) (i : Nat) (s : Int × Int × List (List UInt8) × List (List UInt8) × List UInt8 × Int) : Prop :=
  ∃ (ks xs : List (List UInt8)) (data : List UInt8), s = (k, n, ks, xs, data, (i : Int)) ∧ i ≤ script.length ∧ ks.length = xs.length ∧ ks.length ≤ 256 ∧ mget ks xs own3 = some key ∧ data.length ≤ TotG wtOp (script.take i)
theorem others_loop (k n : Int) (key salt pers data0 tag : List UInt8) (script : List (Int × List UInt8 × List UInt8 × List UInt8)) (hs : TotG wtOp script ≤ 1048576) (hl : script.length ≤ 200) (m : Int) (hm : m_r02_Most k = some m) (h0 : m ≠ 0) (hn : 1 ≤ n ∧ n ≤ m) (hk : 1 ≤ key.length ∧ ((key.length : Nat) : Int) ≤ m)
    (s : Int × Int × List (List UInt8) × List (List UInt8) × List UInt8 × Int) (h : Inv k n key script 0 s) : whileO (m_l06_MacOthers_l1 k n key script) s = some true := by
  refine whileO_eq (Inv k n key script) true script.length s h ?_
  rintro i s ⟨ks, xs, data, rfl, hi, e1, e2, e3, e4⟩
  have htl := tot_take_le wtOp script i
  unfold m_l06_MacOthers_l1
  simp only []
  by_cases hlt : i < script.length
  · left
    refine ⟨hlt, ?_⟩
    rw [if_pos (by omega), geti_nat hlt]
    simp only [Option.bind_some]
    have htt := tot_take wtOp script i hlt
    have hge := tot_ge wtOp script i hlt
    generalize hx : script[i] = x at *
    obtain ⟨x1, x2, x3, x4⟩ := x
    have hw : x2.length ≤ 1048576 ∧ x3.length ≤ 1048576 ∧ x4.length ≤ wtOp (x1, x2, x3, x4) := by
      unfold wtOp at *
      simp only [] at *
      omega
    obtain ⟨w2, w3, w4⟩ := hw
    simp only []
    by_cases c1 : x2 = ([111, 119, 110] : List UInt8)
    · rw [if_pos c1]
      unfold m_l06_MacOthers_j4 m_l06_MacOthers_j3
      refine ⟨_, rfl, ks, xs, data, by rw [w64_succ i (by omega)], by omega, e1, e2, e3, by omega⟩
    rw [if_neg c1]
    have fin : ∀ (ks' xs' : List (List UInt8)), Kept ks xs ks' xs' x2 → ∃ s', m_l06_MacOthers_j5 script data (i : Int) k n ks' xs' = some (.inl s') ∧ Inv k n key script (i + 1) s' := by
      intro ks' xs' hK
      unfold m_l06_MacOthers_j5
      rw [geti_nat hlt]
      simp only [Option.bind_some, hx]
      rw [app_ok (by omega)]
      simp only [Option.bind_some]
      unfold m_l06_MacOthers_j4 m_l06_MacOthers_j3
      refine ⟨_, rfl, ks', xs', data ++ x4, by rw [w64_succ i (by omega)], by omega, hK.len, hK.le, ?_, ?_⟩
      · rw [hK.at_ own3 (fun e => c1 e.symm)]; exact e3
      · rw [List.length_append]; omega
    by_cases c2 : x1 = 0
    · rw [if_pos c2]
      obtain ⟨e, ks', xs', h1, hK⟩ := radd_ok k n ks xs x2 x3 e1 e2 (by omega) (by omega)
      rw [h1]
      exact fin ks' xs' hK
    · rw [if_neg c2]
      obtain ⟨e, ks', xs', h1, hK⟩ := drop_ok k n ks xs x2 e1 e2
      rw [h1]
      exact fin ks' xs' hK
  · right
    have hi' : i = script.length := by omega
    subst hi'
    rw [if_neg (by omega)]
    rw [List.take_length] at e4
    have hd : data.length ≤ 12000000 := by omega
    have hmc := most_cases k m hm h0
    have hc := check_zero k m (w64 (Int.tdiv m 4)) rfl hm (by omega) n ((key.length : Nat) : Int) hn (by omega) [] [] (by rcases hmc with rfl | rfl <;> decide) (by rcases hmc with rfl | rfl <;> decide)
    obtain ⟨t, d1, d2⟩ := dig_zero k n key [] [] data hd hc
    have htn : t.length ≤ 64 := by omega
    rw [tag_eq k n ks xs _ data key e3, d1]
    simp only [Option.bind_some]
    unfold m_mac_Make
    rw [d1]
    simp only [Option.bind_some]
    obtain ⟨who, u, q, f1, f2, f3, f4⟩ := who_eq k n ks xs t data own3 key 0 hd e1 e2 e3 d1 d2
    rw [f4]
    simp only [Option.bind_some]
    rw [if_neg (by simp), same_eq t t (by omega)]
    simp only [Option.bind_some, decide_true]
    rw [if_neg (by decide), tag_eq k n ks xs who data u f2, f3]
    simp only [Option.bind_some]
    have hq : q = 0 := dig_err k n u [] [] data hd (t, q) f3 (by intro e; simp only [] at e; rw [e] at d2; simp at d2; omega)
    rw [if_pos hq, same_eq t t (by omega)]
    simp only [Option.bind_some, decide_true, Bool.true_and]
    rw [le_own who own3 f1]
    rfl
theorem p_l06_MacOthers (k : Int) (hk : -9223372036854775808 ≤ k ∧ k ≤ 9223372036854775807) (n : Int) (hn : -9223372036854775808 ≤ n ∧ n ≤ 9223372036854775807)
    (key : List UInt8) (b1 : key.length ≤ 1048576) (salt : List UInt8) (b2 : salt.length ≤ 1048576) (pers : List UInt8) (b3 : pers.length ≤ 1048576) (data : List UInt8) (b4 : data.length ≤ 1048576) (tag : List UInt8) (b5 : tag.length ≤ 1048576)
    (script : List (Int × List UInt8 × List UInt8 × List UInt8)) (hs : TotG (fun z_ : Int × List UInt8 × List UInt8 × List UInt8 => max z_.2.1.length (max z_.2.2.1.length (z_.2.2.2.length))) script ≤ 1048576) :
    m_l06_MacOthers k n key salt pers data tag script = some true := by
  unfold m_l06_MacOthers
  rw [alive_ok]
  simp only [Option.bind_some]
  rw [if_neg (by decide)]
  obtain ⟨m, hm, hm0, hm64⟩ := most_le k
  unfold m_mac_NewRing
  rw [most_ok, hm]
  simp only [Option.bind_some]
  by_cases h0 : m = 0
  · rw [if_pos h0]
    simp only [Option.bind_some, Sum.elim_inl]
    rw [if_pos (by decide)]
  rw [if_neg h0]
  by_cases h1 : ((decide (n < 1)) || (decide (m < n))) = true
  · rw [if_pos h1]
    simp only [Option.bind_some, Sum.elim_inl]
    rw [if_pos (by decide)]
  rw [if_neg h1]
  simp only [Option.bind_some, Sum.elim_inr]
  rw [if_neg (by decide)]
  simp only [Bool.or_eq_true, decide_eq_true_eq] at h1
  by_cases h2 : (((decide (((key.length : Nat) : Int) = 0)) || (decide (32 < ((key.length : Nat) : Int)))) || (decide (200 < ((script.length : Nat) : Int)))) = true
  · rw [if_pos h2]
  rw [if_neg h2]
  simp only [Bool.or_eq_true, decide_eq_true_eq] at h2
  have hmc := most_cases k m hm h0
  have ha : m_mac_Ring_Add_m k n [] [] own3 key = some (0, k, n, [own3], [key]) := by
    unfold m_mac_Ring_Add_m m_mac_Ring_none_m
    simp only [Option.bind_some]
    show Option.elim (mget [] [] own3) _ _ = _
    have : mget ([] : List (List UInt8)) ([] : List (List UInt8)) own3 = none := rfl
    rw [this]
    simp only [Option.elim_none, label_own, Option.bind_some, most_ok, hm]
    rw [if_neg (by decide), if_neg (by omega), if_neg (by omega), if_neg (by simp), clone_ok key (by omega)]
    rfl
  rw [ha]
  simp only [Option.bind_some]
  rw [if_neg (by decide)]
  refine others_loop k n key salt pers data tag script hs (by omega) m hm h0 (by omega) (by omega) _ ⟨[own3], [key], [], rfl, by omega, rfl, by simp, ?_, by simp [TotG]⟩
  rw [mget_cons, if_pos rfl]
end Go.Sx
