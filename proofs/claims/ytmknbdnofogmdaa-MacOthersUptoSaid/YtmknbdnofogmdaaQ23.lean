import Derived.Test.YtmknbdnofogmdaaQ18
import Derived.Test.YtmknbdnofogmdaaSyV
namespace Go.Sx
open Go.RowKit
set_option linter.unusedVariables false
set_option linter.unusedSimpArgs false
theorem mget_cons (x : List UInt8) (ks : List (List UInt8)) (v : List UInt8) (xs : List (List UInt8)) (b : List UInt8) : mget (x :: ks) (v :: xs) b = if x = b then some v else mget ks xs b := by
  unfold mget
  show (match (if x = b then some 0 else (kfind ks b).map (· + 1)) with | some j => (v :: xs)[j]? | none => none) = _
  by_cases h : x = b
  · rw [if_pos h, if_pos h]; rfl
  · rw [if_neg h, if_neg h]
    cases hk : kfind ks b with
    | none => rfl
    | some j => simp
theorem mget_app (a v b : List UInt8) : ∀ (ks xs : List (List UInt8)), ks.length = xs.length → b ≠ a → mget (ks ++ [a]) (xs ++ [v]) b = mget ks xs b
  | [], [], _, h => by
    show mget [a] [v] b = _
    rw [mget_cons, if_neg (fun e => h e.symm)]
  | [], _ :: _, h, _ => by cases h
  | _ :: _, [], h, _ => by cases h
  | x :: ks, y :: xs, h, hb => by
    rw [List.cons_append, List.cons_append, mget_cons, mget_cons, mget_app a v b ks xs (by simpa using h) hb]
theorem mget_del (a b : List UInt8) : ∀ (ks xs : List (List UInt8)) (j : Nat), ks.length = xs.length → kfind ks a = some j → b ≠ a → mget (ks.eraseIdx j) (xs.eraseIdx j) b = mget ks xs b
  | [], _, _, _, h, _ => by cases h
  | _ :: _, [], _, h, _, _ => by cases h
  | x :: ks, y :: xs, j, h, hk, hb => by
    unfold kfind at hk
    by_cases hx : x = a
    · rw [if_pos hx] at hk
      obtain rfl := Option.some.inj hk
      rw [mget_cons, if_neg (by rw [hx]; exact fun e => hb e.symm)]
      rfl
    · rw [if_neg hx, Option.map_eq_some_iff] at hk
      obtain ⟨i, hi, rfl⟩ := hk
      rw [List.eraseIdx_cons_succ, List.eraseIdx_cons_succ, mget_cons, mget_cons, mget_del a b ks xs i (by simpa using h) hi hb]
theorem mget_mem {ks xs : List (List UInt8)} {b : List UInt8} (h : ks.length = xs.length) (hb : b ∈ ks) : ∃ v, mget ks xs b = some v := by
  cases hf : kfind ks b with
  | none => exact absurd hb (kfind_none.1 hf)
  | some j =>
    have := (List.getElem?_eq_some_iff.1 (kfind_some hf)).1
    exact ⟨xs[j]'(by omega), mget_some hf (List.getElem?_eq_getElem _)⟩
theorem mem_mget {ks xs : List (List UInt8)} {b v : List UInt8} (h : mget ks xs b = some v) : b ∈ ks := by
  cases hf : kfind ks b with
  | none => rw [mget_none hf] at h; cases h
  | some j => exact List.mem_of_getElem? (kfind_some hf)
theorem mget_kf {ks xs : List (List UInt8)} {b : List UInt8} (hl : ks.length = xs.length) (h : mget ks xs b = none) : kfind ks b = none := by
  cases hf : kfind ks b with
  | none => rfl
  | some j =>
    obtain ⟨v, hv⟩ := mget_mem hl (List.mem_of_getElem? (kfind_some hf))
    rw [hv] at h; cases h
/-- a name may be, or not -/
theorem label_ex (s : List UInt8) (hs : s.length ≤ 16000000) : ∃ b, m_mac_label s = some b := by
  unfold m_mac_label
  have step : ∀ (i : Nat) (x : Int), (x = (i : Int) ∧ i ≤ s.length) → (i < s.length ∧ ∃ s', m_mac_label_l0 s x = some (.inl s') ∧ (s' = ((i + 1 : Nat) : Int) ∧ i + 1 ≤ s.length)) ∨ ∃ r, m_mac_label_l0 s x = some (.inr r) ∧ True := by
    rintro i x ⟨rfl, hi⟩
    unfold m_mac_label_l0
    by_cases hlt : i < s.length
    · rw [if_pos (by omega), geti_nat hlt]
      simp only [Option.bind_some]
      by_cases hc : s[i] < 33
      · right
        have e1 : gif (!(decide (s[i] < 33))) (some s[i]) = some default := by simp [gif, hc]
        rw [e1]
        simp only [Option.bind_some, hc, decide_true, Bool.true_or, if_true]
        exact ⟨_, rfl, trivial⟩
      · have e1 : gif (!(decide (s[i] < 33))) (some s[i]) = some s[i] := by simp [gif, hc]
        rw [e1]
        simp only [Option.bind_some]
        by_cases h2 : ((decide (s[i] < 33)) || (decide ((126 : UInt8) < s[i]))) = true
        · right; rw [if_pos h2]; exact ⟨_, rfl, trivial⟩
        · left; rw [if_neg h2]; exact ⟨hlt, _, rfl, w64_succ i (by omega), by omega⟩
    · right
      rw [if_neg (by omega)]
      exact ⟨_, rfl, trivial⟩
  obtain ⟨r, h, _⟩ := whileO_inv (f := m_mac_label_l0 s) (fun i x => x = (i : Int) ∧ i ≤ s.length) (fun _ => True) s.length step (0 : Int) ⟨rfl, by omega⟩
  exact ⟨r, h⟩
theorem label_own : m_mac_label [111, 119, 110] = some true := by
  unfold m_mac_label
  refine whileO_eq (fun i x => x = (i : Int) ∧ i ≤ 3) true 3 _ ⟨rfl, by omega⟩ ?_
  rintro i x ⟨rfl, hi⟩
  unfold m_mac_label_l0
  obtain rfl | rfl | rfl | rfl : i = 0 ∨ i = 1 ∨ i = 2 ∨ i = 3 := by omega
  · left; exact ⟨by omega, 1, rfl, rfl, by omega⟩
  · left; exact ⟨by omega, 2, rfl, rfl, by omega⟩
  · left; exact ⟨by omega, 3, rfl, rfl, by omega⟩
  · right; rfl
theorem clone_ok (s : List UInt8) (h : s.length ≤ 16000000) : m_slices_Clone_byte_byte s = some s := by
  unfold m_slices_Clone_byte_byte
  rw [app_ok (by simp; omega)]
  simp only [Option.bind_some, List.nil_append]
/-- what Add and Drop leave -/
structure Kept (ks xs ks' xs' : List (List UInt8)) (name : List UInt8) : Prop where
  len : ks'.length = xs'.length
  le : ks'.length ≤ 256
  at_ : ∀ b, b ≠ name → mget ks' xs' b = mget ks xs b
theorem radd_ok (k n : Int) (ks xs : List (List UInt8)) (name key : List UInt8) (hl : ks.length = xs.length) (h256 : ks.length ≤ 256) (hn : name.length ≤ 16000000) (hk : key.length ≤ 16000000) :
    ∃ e ks' xs', m_mac_Ring_Add_m k n ks xs name key = some (e, k, n, ks', xs') ∧ Kept ks xs ks' xs' name := by
  have same : Kept ks xs ks xs name := ⟨hl, h256, fun _ _ => rfl⟩
  obtain ⟨b, hb⟩ := label_ex name hn
  obtain ⟨m, hm, _, _⟩ := most_le k
  unfold m_mac_Ring_Add_m m_mac_Ring_none_m
  simp only [Option.bind_some, hb, most_ok, hm]
  cases hg : mget ks xs name with
  | some v =>
    simp only [Option.elim_some]
    by_cases c1 : (!b) = true
    · rw [if_pos c1]; exact ⟨_, _, _, rfl, same⟩
    rw [if_neg c1]
    by_cases c2 : ((key.length : Nat) : Int) = 0
    · rw [if_pos c2]; exact ⟨_, _, _, rfl, same⟩
    rw [if_neg c2]
    by_cases c3 : m < ((key.length : Nat) : Int)
    · rw [if_pos c3]; exact ⟨_, _, _, rfl, same⟩
    rw [if_neg c3]; exact ⟨_, _, _, rfl, same⟩
  | none =>
    simp only [Option.elim_none]
    by_cases c1 : (!b) = true
    · rw [if_pos c1]; exact ⟨_, _, _, rfl, same⟩
    rw [if_neg c1]
    by_cases c2 : ((key.length : Nat) : Int) = 0
    · rw [if_pos c2]; exact ⟨_, _, _, rfl, same⟩
    rw [if_neg c2]
    by_cases c3 : m < ((key.length : Nat) : Int)
    · rw [if_pos c3]; exact ⟨_, _, _, rfl, same⟩
    rw [if_neg c3]
    by_cases c4 : 256 ≤ ((ks.length : Nat) : Int)
    · rw [if_pos c4]; exact ⟨_, _, _, rfl, same⟩
    rw [if_neg c4, clone_ok key hk]
    simp only [Option.bind_some]
    have hf := mget_kf hl hg
    have e1 : mputK ks name = ks ++ [name] := by unfold mputK; rw [hf]
    have e2 : mputV ks xs name key = xs ++ [key] := by unfold mputV; rw [hf]
    rw [e1, e2]
    exact ⟨_, _, _, rfl, by simp [hl], by simp; omega, fun b hb => mget_app name key b ks xs hl hb⟩
theorem drop_ok (k n : Int) (ks xs : List (List UInt8)) (name : List UInt8) (hl : ks.length = xs.length) (h256 : ks.length ≤ 256) :
    ∃ e ks' xs', m_mac_Ring_Drop_m k n ks xs name = some (e, k, n, ks', xs') ∧ Kept ks xs ks' xs' name := by
  unfold m_mac_Ring_Drop_m m_mac_Ring_none_m
  simp only [Option.bind_some]
  cases hg : mget ks xs name with
  | none => exact ⟨_, _, _, rfl, hl, h256, fun _ _ => rfl⟩
  | some v =>
    simp only [Option.elim_some]
    cases hf : kfind ks name with
    | none => rw [mget_none hf] at hg; cases hg
    | some j =>
      have e1 : mdelK ks name = ks.eraseIdx j := by unfold mdelK; rw [hf]
      have e2 : mdelV ks xs name = xs.eraseIdx j := by unfold mdelV; rw [hf]
      rw [e1, e2]
      refine ⟨_, _, _, rfl, by simp [List.length_eraseIdx, hl], ?_, fun b hb => mget_del name b ks xs j hl hf hb⟩
      rw [List.length_eraseIdx]; split <;> omega
theorem tag_eq (k n : Int) (ks xs : List (List UInt8)) (name data v : List UInt8) (h : mget ks xs name = some v) :
    m_mac_Ring_Tag_m k n ks xs name data = (m_mac_digest k n v [] [] data).bind fun r => some (r.1, r.2, k, n, ks, xs) := by
  unfold m_mac_Ring_Tag_m m_mac_Ring_none_m
  simp only [Option.bind_some, h, Option.elim_some]
/-- an error tells no bytes -/
theorem dig_err (k n : Int) (key salt pers data : List UInt8) (hd : data.length ≤ 12000000) (x : List UInt8 × Int) (h : m_mac_digest k n key salt pers data = some x) (h1 : x.1 ≠ []) : x.2 = 0 := by
  obtain ⟨y, y1, y2, _⟩ := make_ok k n key salt pers data hd
  rw [h] at y1
  obtain rfl := Option.some.inj y1
  obtain ⟨r, c1, c2⟩ := check_some k n ((key.length : Nat) : Int) 1 1 0 0 0 0 0 salt pers
  unfold m_r06_Make at y2
  rw [c1] at y2
  simp only [Option.bind_some] at y2
  by_cases hr : r ≠ 0
  · rw [if_pos hr] at y2
    have := Option.some.inj y2
    rw [← this] at h1
    exact absurd rfl h1
  · have hr0 : r = 0 := by omega
    subst hr0
    obtain ⟨z, z1, z2⟩ := dig_zero k n key salt pers data hd c1
    rw [h] at z1
    obtain rfl := Option.some.inj z1
    rfl
/-- the first name whose tag it is -/
theorem who_loop (k n : Int) (ks xs : List (List UInt8)) (tag data : List UInt8) (r1 : List (List UInt8) × Int × Int × List (List UInt8) × List (List UInt8)) (hd : data.length ≤ 12000000) (hr : r1.1.length ≤ 256)
    (hm : ∀ b ∈ r1.1, ∃ v, mget ks xs b = some v) (p : Nat) (own v : List UInt8) (hp : r1.1[p]? = some own) (hv : mget ks xs own = some v) (e : Int) (ht : m_mac_digest k n v [] [] data = some (tag, e)) :
    ∀ (m i : Nat), i + m = p → ∃ (j : Nat) (who u : List UInt8) (e2 : Int), j ≤ p ∧ r1.1[j]? = some who ∧ mget ks xs who = some u ∧ m_mac_digest k n u [] [] data = some (tag, e2) ∧
      whileO (m_mac_Ring_Who_m_l0 tag data r1) (k, n, ks, xs, (i : Int)) = some (who, true, 0, k, n, ks, xs) := by
  have hpl := (List.getElem?_eq_some_iff.1 hp).1
  have hit : ∀ (i : Nat) (who u : List UInt8) (e2 : Int), r1.1[i]? = some who → mget ks xs who = some u → m_mac_digest k n u [] [] data = some (tag, e2) → whileO (m_mac_Ring_Who_m_l0 tag data r1) (k, n, ks, xs, (i : Int)) = some (who, true, 0, k, n, ks, xs) := by
    intro i who u e2 h1 h2 h3
    have hil := (List.getElem?_eq_some_iff.1 h1).1
    refine whileO_done ?_
    unfold m_mac_Ring_Who_m_l0
    simp only []
    rw [if_pos (by omega), geti_nat hil, (List.getElem?_eq_some_iff.1 h1).2]
    simp only [Option.bind_some]
    obtain ⟨y, y1, _, y3⟩ := make_ok k n u [] [] data hd
    rw [h3] at y1
    obtain rfl := Option.some.inj y1
    rw [tag_eq k n ks xs who data u h2, h3]
    simp only [Option.bind_some]
    simp only [] at y3
    rw [equal_eq tag tag (by omega)]
    simp
  intro m
  induction m with
  | zero =>
    intro i hi
    rw [Nat.add_zero] at hi
    subst hi
    exact ⟨i, own, v, e, Nat.le_refl _, hp, hv, ht, hit i own v e hp hv ht⟩
  | succ m ih =>
    intro i hi
    have hil : i < r1.1.length := by omega
    have h1 : r1.1[i]? = some r1.1[i] := List.getElem?_eq_getElem hil
    obtain ⟨u, hu⟩ := hm _ (List.getElem_mem hil)
    obtain ⟨y, y1, _, y3⟩ := make_ok k n u [] [] data hd
    by_cases he : y.1 = tag
    · have h3 : m_mac_digest k n u [] [] data = some (tag, y.2) := by rw [y1, ← he]
      exact ⟨i, r1.1[i], u, y.2, by omega, h1, hu, h3, hit i _ u y.2 h1 hu h3⟩
    · obtain ⟨j, who, u2, e2, q1, q2, q3, q4, q5⟩ := ih (i + 1) (by omega)
      refine ⟨j, who, u2, e2, q1, q2, q3, q4, ?_⟩
      rw [← q5]
      refine whileO_next ?_
      unfold m_mac_Ring_Who_m_l0
      simp only []
      rw [if_pos (by omega), geti_nat hil]
      simp only [Option.bind_some]
      rw [tag_eq k n ks xs _ data u hu, y1]
      simp only [Option.bind_some]
      rw [equal_eq y.1 tag (by omega)]
      simp only [Option.bind_some]
      rw [if_neg (by simpa using he), w64_succ i (by omega)]
theorem srt_mem {l : List (List UInt8)} {x : List UInt8} : x ∈ srt l ↔ x ∈ l := by unfold srt; exact List.mem_mergeSort
theorem srt_le (l : List (List UInt8)) {i j : Nat} (h : i ≤ j) {a b : List UInt8} (ha : (srt l)[i]? = some a) (hb : (srt l)[j]? = some b) : a ≤ b := by
  have tr : ∀ a b c : List UInt8, leB a b = true → leB b c = true → leB a c = true := fun a b c h1 h2 => by simp only [leB, decide_eq_true_eq] at *; exact List.le_trans h1 h2
  have to : ∀ a b : List UInt8, (leB a b || leB b a) = true := fun a b => by simp only [leB, Bool.or_eq_true, decide_eq_true_eq]; exact List.le_total a b
  have hp := List.pairwise_mergeSort tr to l
  rcases Nat.lt_or_eq_of_le h with h | rfl
  · have h1 := (List.getElem?_eq_some_iff.1 ha)
    have h2 := (List.getElem?_eq_some_iff.1 hb)
    have := List.pairwise_iff_getElem.1 hp i j h1.1 h2.1 h
    have e1 : (l.mergeSort leB)[i]'h1.1 = a := h1.2
    have e2 : (l.mergeSort leB)[j]'h2.1 = b := h2.2
    rw [e1, e2] at this
    simpa [leB] using this
  · rw [ha] at hb
    obtain rfl := Option.some.inj hb
    exact List.le_refl _
theorem le_own (a b : List UInt8) (h : a ≤ b) : (Op.bytesLess a b || decide (a = b)) = true := by
  rw [Go.Proofs.bytesLess_eq]
  by_cases e : a = b
  · simp [e]
  · have : a < b := by
      rcases Classical.em (a < b) with h1 | h1
      · exact h1
      · exact absurd (List.le_antisymm h (List.not_lt.1 h1)) e
    simp [this]
theorem who_eq (k n : Int) (ks xs : List (List UInt8)) (tag data own v : List UInt8) (e : Int) (hd : data.length ≤ 12000000) (hl : ks.length = xs.length) (h256 : ks.length ≤ 256) (hv : mget ks xs own = some v) (ht : m_mac_digest k n v [] [] data = some (tag, e)) (hn : ((tag.length : Nat) : Int) = n) :
    ∃ (who u : List UInt8) (e2 : Int), who ≤ own ∧ mget ks xs who = some u ∧ m_mac_digest k n u [] [] data = some (tag, e2) ∧ m_mac_Ring_Who_m k n ks xs tag data = some (who, true, 0, k, n, ks, xs) := by
  have ho : own ∈ srt ks := srt_mem.2 (mem_mget hv)
  obtain ⟨p, hpl, hp⟩ := List.getElem_of_mem ho
  have hp' : (srt ks)[p]? = some own := by rw [List.getElem?_eq_getElem hpl, hp]
  obtain ⟨j, who, u, e2, q1, q2, q3, q4, q5⟩ := who_loop k n ks xs tag data (srt ks, k, n, ks, xs) hd (by show (srt ks).length ≤ 256; rw [srt_length]; exact h256) (fun b hb => mget_mem hl (srt_mem.1 hb)) p own v hp' hv e ht p 0 (by omega)
  refine ⟨who, u, e2, srt_le ks q1 q2 hp', q3, q4, ?_⟩
  unfold m_mac_Ring_Who_m m_mac_Ring_none_m m_mac_Ring_Names_m m_mac_Ring_none_m
  simp only [Option.bind_some]
  rw [if_neg (by simpa using hn), need_ok (by omega)]
  exact q5
end Go.Sx
