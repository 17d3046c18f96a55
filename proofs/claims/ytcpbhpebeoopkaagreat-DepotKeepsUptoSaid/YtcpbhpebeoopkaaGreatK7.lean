import Derived.Test.YtcpbhpebeoopkaaGreatK6
namespace Go.Sx
open Go.RowKit
set_option linter.unusedVariables false
set_option linter.unusedSimpArgs false
theorem Xn (T : Mp Int) (x k : Ky) : (aK (inc T x) k).getD 0 = if x = k then aI ((aK T k).getD 0 + 1) else (aK T k).getD 0 := by
  unfold inc
  rw [xW]
  by_cases h : x = k
  · rw [if_pos h, if_pos h, h]; rfl
  · rw [if_neg h, if_neg h]
theorem JO (k : Ky) : ∀ (L : List Ky) (T : Mp Int), 0 ≤ (aK T k).getD 0 → (aK T k).getD 0 + L.length < 4611686018427387904 → (aK (L.foldl inc T) k).getD 0 = (aK T k).getD 0 + (L.count k : Int)
  | [], T, _, _ => by simp
  | x :: L, T, h0, h1 => by
    simp only [List.length_cons] at h1
    have hi := Xn T x k
    rw [List.foldl_cons]
    by_cases h : x = k
    · rw [if_pos h, fP (by omega)] at hi
      rw [JO k L (inc T x) (by omega) (by omega), hi, h, List.count_cons_self]
      omega
    · rw [if_neg h] at hi
      rw [JO k L (inc T x) (by omega) (by omega), hi, List.count_cons_of_ne (by simpa using h)]
theorem LK (k : Ky) : ∀ (L : List Ky) (T : Mp Int), aK (L.foldl inc T) k ≠ none → k ∈ L ∨ aK T k ≠ none
  | [], T, h => .inr h
  | x :: L, T, h => by
    rcases LK k L (inc T x) h with h1 | h1
    · exact .inl (List.mem_cons_of_mem _ h1)
    · unfold inc at h1
      rw [xW] at h1
      by_cases hx : x = k
      · exact .inl (hx ▸ List.mem_cons_self)
      · rw [if_neg hx] at h1; exact .inr h1
theorem P5 : ∀ (L : List Ky) (T : Mp Int), (L.foldl inc T).length ≤ T.length + L.length
  | [], T => by simp
  | x :: L, T => by
    have h1 := P5 L (inc T x)
    have h2 := Cf x (aI ((aK T x).getD 0 + 1)) T
    unfold inc at h1 ⊢
    simp only [List.foldl_cons, List.length_cons] at *
    omega
structure Whole (sz : Nat) (p : Ky × (Int × List UInt8)) (ks : List Ky) : Prop where
  eq : p.2.2 = ks.flatten
  each : ∀ k ∈ ks, k.length = sz
  len : ks.length ≤ 1048576
theorem P6 (sz : Nat) (h1 : 1 ≤ sz) (C : Ch) (S : Sn) (kf : Ky × (Int × List UInt8) → List Ky) : ∀ md : Gg, (∀ p ∈ md, Whole sz p (kf p)) → ∀ T : Mp Int,
    lG (dU C S) ((sz : Int), T) md = some ((sz : Int), (md.map kf).flatten.foldl inc T)
  | [], _, T => rfl
  | p :: md, h, T => by
    have hp := h p List.mem_cons_self
    have hl := hp.len
    have hc : eX (sz : Int) C S p.2.2 = some (kf p, (sz : Int)) := by
      unfold eX
      rw [hp.eq]
      exact Tf sz h1 (kf p) hp.each (by omega)
    rw [lG, o8, hc]
    simp only [Option.bind_some]
    rw [if_pos (by omega)]
    simp only [Option.bind_some]
    rw [P6 sz h1 C S kf md (fun q hq => h q (List.mem_cons_of_mem _ hq))]
    rw [List.map_cons, List.flatten_cons, List.foldl_append]
theorem EE (kf : Ky × (Int × List UInt8) → List Ky) : ∀ md : Gg, (∀ p ∈ md, (kf p).length ≤ 1048576) → (md.map kf).flatten.length ≤ md.length * 1048576
  | [], _ => by simp
  | p :: md, h => by
    have h1 := EE kf md (fun q hq => h q (List.mem_cons_of_mem _ hq))
    have h2 := h p List.mem_cons_self
    simp only [List.map_cons, List.flatten_cons, List.length_append, List.length_cons, Nat.succ_mul]
    omega
theorem P7 (sz : Nat) (h1 : 1 ≤ sz) (C : Ch) (n : Ky) (md : Gg) (kf : Ky × (Int × List UInt8) → List Ky) (h : ∀ p ∈ md, Whole sz p (kf p)) :
    kT (sz : Int) C [(n, md)] = some ((md.map kf).flatten.foldl inc [], (sz : Int)) := by
  unfold kT
  simp only [lG, Jj]
  rw [P6 sz h1 C _ kf md h]
  rfl
theorem EF (T : Mp Int) (z : Int) : ∀ (l : Ch) (m : Ch) (n : Nat), n + l.length < 1000000000000000000 → pq m →
    ∃ (m' : Ch) (n' : Nat), lG (fU (T, z)) (m, (n : Int)) l = some (m', (n' : Int)) ∧ pq m' ∧ ∀ k, aK m' k = if k ∈ l.map (·.1) ∧ (aK T k).getD 0 = 0 then none else aK m k
  | [], m, n, _, hs => ⟨m, n, rfl, hs, fun k => by simp⟩
  | p :: l, m, n, hn, hs => by
    obtain ⟨k0, v⟩ := p
    simp only [List.length_cons] at hn
    by_cases h0 : (aK T k0).getD 0 = 0
    · obtain ⟨m', n', e1, e2, e3⟩ := EF T z l (uC m k0) (n + 1) (by omega) (hs.uC k0)
      refine ⟨m', n', ?_, e2, fun k => ?_⟩
      · simp only [lG, fU]
        rw [if_pos h0]
        simp only [Option.bind_some]
        rw [fP (by omega)]
        exact e1
      · rw [e3, Ja hs]
        simp only [List.map_cons, List.mem_cons]
        by_cases hk : k0 = k
        · subst hk
          simp [h0]
        · by_cases hl : k ∈ l.map (·.1) ∧ (aK T k).getD 0 = 0
          · rw [if_pos hl, if_pos ⟨.inr hl.1, hl.2⟩]
          · rw [if_neg hl, if_neg hk, if_neg]
            rintro ⟨h1 | h1, h2⟩
            · exact hk h1.symm
            · exact hl ⟨h1, h2⟩
    · obtain ⟨m', n', e1, e2, e3⟩ := EF T z l m n (by omega) hs
      refine ⟨m', n', ?_, e2, fun k => ?_⟩
      · simp only [lG, fU]
        rw [if_neg h0]
        simp only [Option.bind_some]
        exact e1
      · rw [e3]
        simp only [List.map_cons, List.mem_cons]
        by_cases hl : k ∈ l.map (·.1) ∧ (aK T k).getD 0 = 0
        · rw [if_pos hl, if_pos ⟨.inr hl.1, hl.2⟩]
        · rw [if_neg hl, if_neg]
          rintro ⟨h1 | h1, h2⟩
          · subst h1; exact h0 h2
          · exact hl ⟨h1, h2⟩
theorem cut_s1 : lU = eG := rfl
theorem get_ok (sz : Nat) (h1 : 1 ≤ sz) (h2 : sz ≤ 64) (C : Ch) (S : Sn) (n : Ky) (md : Gg) (f : Fi) (hS : aK S n = some md) (hf : aK md f.1 = some ((f.2.length : Int), (AB sz f).flatten)) (hl : f.2.length ≤ 1048576)
    (hC : ∀ c ∈ cut f.2 [] 0, aK C (xn sz c) = some c) : kU (sz : Int) C S n f.1 = some (f.2, 0, (sz : Int)) := by
  have hcnt := CX f.2
  have hall := SE f.2
  have hbd := tu f.2 [] 0 (by simp)
  unfold kU cZ
  simp only [Option.bind_some]
  rw [hS]
  simp only [Option.elim_some]
  rw [hf]
  simp only [Option.getD_some, Option.bind_some, Option.isSome_some, Bool.not_true, Bool.false_eq_true, if_false]
  unfold nX
  rw [cut_s1, Tf sz h1 (AB sz f) (fun k hk => by
    obtain ⟨c, hc, rfl⟩ := List.mem_map.1 hk
    exact (Ce sz h1 h2 c (by have := (hbd c hc).2; omega)).2.2) (by unfold AB; rw [List.length_map]; omega)]
  simp only [Option.bind_some]
  have h0 : (([] : List UInt8), (0 : Int)) = (((cut f.2 [] 0).take 0).flatten, ((0 : Nat) : Int)) := rfl
  rw [h0]
  have hdl : (AB sz f).length = (cut f.2 [] 0).length := by unfold AB; rw [List.length_map]
  refine dm (fun i => (((cut f.2 [] 0).take i).flatten, (i : Int))) (cut f.2 [] 0).length (fun i hi => ?_) ?_
  · unfold lM
    simp only []
    rw [if_pos (by omega), dF (by omega)]
    simp only [Option.bind_some]
    have hk : (AB sz f)[i]'(by omega) = xn sz (cut f.2 [] 0)[i] := by unfold AB; rw [List.getElem_map]
    rw [hk, hC _ (List.getElem_mem hi)]
    simp only [Option.elim_some]
    have hfl : ((cut f.2 [] 0).take i).flatten.length ≤ f.2.length := by
      have e : (cut f.2 [] 0).take i ++ (cut f.2 [] 0).drop i = cut f.2 [] 0 := List.take_append_drop _ _
      have e2 := congrArg (fun x => x.flatten.length) e
      simp only [List.flatten_append, List.length_append, hall] at e2
      omega
    rw [app1 (by have := (hbd _ (List.getElem_mem hi)).2; omega)]
    simp only [Option.bind_some]
    have e3 : ((cut f.2 [] 0).take (i + 1)).flatten = ((cut f.2 [] 0).take i).flatten ++ (cut f.2 [] 0)[i] := by
      rw [List.take_add_one, List.getElem?_eq_getElem hi, Option.toList_some, List.flatten_append, List.flatten_cons, List.flatten_nil, List.append_nil]
    rw [lF i (by omega), e3]
  · unfold lM
    simp only []
    rw [if_neg (by omega), List.take_length, hall]
    rfl
theorem Ri (sz : Nat) (h1 : 1 ≤ sz) (C : Ch) (n : Ky) (md : Gg) (kf : Ky × (Int × List UInt8) → List Ky) (h : ∀ p ∈ md, Whole sz p (kf p)) (hm : md.length ≤ 256)
    (hC : ∀ k ∈ (md.map kf).flatten, aK C k ≠ none) : j_ (sz : Int) C [(n, md)] = some ([], (sz : Int)) := by
  unfold j_ cZ
  simp only [Option.bind_some]
  rw [P7 sz h1 C n md kf h]
  simp only [Option.bind_some]
  generalize hT : (md.map kf).flatten.foldl inc [] = T
  have hlen : T.length ≤ 268435456 := by
    have h3 := P5 (md.map kf).flatten []
    have h4 := EE kf md (fun p hp => (h p hp).len)
    rw [hT] at h3
    simp only [List.length_nil] at h3
    omega
  unfold ru
  rw [nP (by omega)]
  simp only [Option.bind_some]
  have hsl : (xq (T.map (·.1))).length = T.length := by rw [D_, List.length_map]
  refine dm (fun i => (([] : List (List UInt8)), (i : Int))) T.length (fun i hi => ?_) ?_
  · unfold jF
    simp only []
    rw [if_pos (by omega), dF (by omega)]
    simp only [Option.bind_some]
    have hmem : (xq (T.map (·.1)))[i]'(by omega) ∈ T.map (·.1) := (show (xq (T.map (·.1))).Perm (T.map (·.1)) by unfold xq; exact List.mergeSort_perm _ _).mem_iff.1 (List.getElem_mem (by omega))
    have hL := LK ((xq (T.map (·.1)))[i]'(by omega)) (md.map kf).flatten [] (by rw [hT]; intro hc; rw [sV] at hc; exact hc hmem)
    rcases hL with hL | hL
    · have := hC _ hL
      cases hf : aK C ((xq (T.map (·.1)))[i]'(by omega)) with
      | none => exact absurd hf this
      | some v =>
        simp only [Option.elim_some]
        unfold jE
        rw [lF i (by omega)]
    · exact absurd rfl hL
  · unfold jF
    simp only []
    rw [if_neg (by omega)]
    rfl
end Go.Sx
namespace Go.Sx
open Go.RowKit
set_option linter.unusedVariables false
set_option linter.unusedSimpArgs false
def told (S : Sn) : Int := (S.map (fun p => sizes p.2)).sum
end Go.Sx
namespace Go.Sx
open Go.RowKit
set_option linter.unusedVariables false
set_option linter.unusedSimpArgs false
theorem JP {δ : Type} {wt : δ → Nat} {N : Nat} : ∀ {l : List δ}, E5 wt l ≤ N → ∀ x ∈ l, wt x ≤ N
  | [], _, x, hx => by cases hx
  | y :: l, h, x, hx => by
    unfold E5 at h
    rcases List.mem_cons.1 hx with rfl | hx
    · omega
    · exact JP (by omega) x hx
theorem JQ : ∀ l : List Fi, (l.map (fun f => f.2.length)).sum ≤ E5 (fun z_ : List UInt8 × List UInt8 => max z_.1.length (z_.2.length)) l
  | [] => by simp [E5]
  | f :: l => by
    have := JQ l
    unfold E5
    simp only [List.map_cons, List.sum_cons]
    omega
theorem new_ok (n : Nat) (h1 : 1 ≤ n) (h2 : n ≤ 64) : wS (n : Int) = some (.inr ((n : Int), [], [])) := by
  unfold wS
  rw [if_neg (by simp only [Bool.or_eq_true, decide_eq_true_eq]; omega)]
theorem Xo : ∀ (l : List Fi) (s : Mp Int × Nat) (e : Int), yJ PT (fun _ => (none : Option Int)) l s = some e → e ≠ 0
  | [], _, _, h => by cases h
  | f :: l, s, e, h => by
    unfold yJ PT at h
    by_cases h1 : oU f.1 = false
    · rw [if_pos h1] at h; cases h; decide
    rw [if_neg h1] at h
    by_cases h2 : (aK s.1 f.1).isSome = true
    · rw [if_pos h2] at h; cases h; decide
    rw [if_neg h2] at h
    exact Xo l _ e h
end Go.Sx
namespace Go.Sx
open Go.RowKit
set_option linter.unusedVariables false
set_option linter.unusedSimpArgs false
theorem Df (a : List UInt8) (h : a.length ≤ 100000000000000) : lY a a = some true := by
  unfold lY vT
  rw [if_neg (by simp)]
  have : aX (n_ a a) (0 : Int) = some true := by
    refine dm (fun i => (i : Int)) a.length (fun i hi => ?_) ?_
    · unfold n_
      rw [if_pos (by omega), dF hi]
      simp only [Option.bind_some, ne_eq, not_true_eq_false, if_false]
      rw [bW i (by omega)]
    · unfold n_
      rw [if_neg (by omega)]
      rfl
  rw [this]
  rfl
theorem P8 (sz : Nat) (C : Ch) (S : Sn) (n : List UInt8) (l : List Fi) (h : (Il sz C S n l).1 ≠ 0) : (Il sz C S n l).2 = (C, S) := by
  unfold Il at h ⊢
  cases hS : aK S n with
  | some x => rfl
  | none =>
    rw [hS] at h
    simp only [] at h ⊢
    by_cases h1 : oU n = false
    · rw [if_pos h1]
    · rw [if_neg h1] at h ⊢
      by_cases h2 : 64 ≤ S.length ∨ 256 < l.length
      · rw [if_pos h2]
      · rw [if_neg h2] at h ⊢
        cases hs : PU l with
        | some e => rfl
        | none =>
          rw [hs] at h
          simp only [] at h ⊢
          cases hk : keepA sz C l with
          | none => rfl
          | some p => rw [hk] at h; exact absurd rfl h
theorem P9 (sz : Nat) (C : Ch) (S : Sn) (n : List UInt8) (l : List Fi) (h : (Il sz C S n l).1 = 0) :
    ∃ m md, keepA sz C l = some (m, md) ∧ PU l = none ∧ aK S n = none ∧ l.length ≤ 256 ∧ Il sz C S n l = (0, xG C m, dD S n md) := by
  unfold Il at h ⊢
  cases hS : aK S n with
  | some x =>
    rw [hS] at h
    simp only [] at h
    split at h <;> cases h
  | none =>
    rw [hS] at h
    simp only [] at h ⊢
    by_cases h1 : oU n = false
    · rw [if_pos h1] at h; cases h
    · rw [if_neg h1] at h ⊢
      by_cases h2 : 64 ≤ S.length ∨ 256 < l.length
      · rw [if_pos h2] at h; cases h
      · rw [if_neg h2] at h ⊢
        cases hs : PU l with
        | some e => rw [hs] at h; exact absurd h (Xo l _ e hs)
        | none =>
          rw [hs] at h
          simp only [] at h ⊢
          cases hk : keepA sz C l with
          | none => rw [hk] at h; cases h
          | some p => refine ⟨p.1, p.2, ?_, ?_, ?_, ?_, ?_⟩ <;> first | rfl | trivial | omega
theorem LM (C : Ch) : Agree C [] := fun k v h => by cases h
theorem Rj {α : Type} (f : α → List UInt8) (k : Nat) : ∀ l : List α, (∀ p ∈ l, (f p).length ≤ k) → (l.map f).flatten.length ≤ k * l.length
  | [], _ => by simp
  | p :: l, h => by
    have h1 := Rj f k l (fun q hq => h q (List.mem_cons_of_mem _ hq))
    have h2 := h p List.mem_cons_self
    simp only [List.map_cons, List.flatten_cons, List.length_append, List.length_cons, Nat.mul_succ]
    omega
structure One (sz : Nat) (l : List Fi) (m : Ch) (n : Ky) (md : Gg) (kf : Ky × (Int × List UInt8) → List Ky) : Prop where
  Xp : OkC m
  keys : ∀ p ∈ m, p.1 = xn sz p.2
  okg : OkG sz [(n, md)]
  oks : OkS sz [(n, md)]
  save : (Cj sz m [(n, md)]).length ≤ 100000000000000
  whole : ∀ p ∈ md, Whole sz p (kf p)
  few : md.length ≤ 256
  told : ∀ k, k ∈ (md.map kf).flatten ↔ ∃ f ∈ l, ∃ c ∈ cut f.2 [] 0, k = xn sz c
  has : ∀ f ∈ l, ∀ c ∈ cut f.2 [] 0, aK m (xn sz c) = some c
  from_ : ∀ k c, aK m k = some c → ∃ f ∈ l, ∃ c ∈ cut f.2 [] 0, k = xn sz c
  find : ∀ f ∈ l, aK md f.1 = some ((f.2.length : Int), (AB sz f).flatten)
theorem one_ok (sz : Nat) (h1 : 1 ≤ sz) (h2 : sz ≤ 64) (l : List Fi) (hl : l.length ≤ 256) (hd : ∀ f ∈ l, f.2.length ≤ 1048576) (hsum : (l.map (fun f => f.2.length)).sum ≤ 1048576) (m : Ch) (md : Gg) (hk : keepA sz [] l = some (m, md)) (hse : PU l = none) (n : Ky) (hn : oU n = true) :
    ∃ kf, One sz l m n md kf := by
  have K : Td sz [] l ([], []) (m, md) := Dc l _ _ hk
  have hnd := (LC l [] 0 hse).1
  have hnm := LG l ([], 0) hse
  have hlen : m.length ≤ 1048576 := by have := K.len; simp only [List.length_nil] at this; omega
  have hlen2 : md.length ≤ 256 := by have := K.AY; simp only [List.length_nil] at this; omega
  have hmem : ∀ p ∈ m, ∃ f ∈ l, ∃ c ∈ cut f.2 [] 0, p = (xn sz c, c) := fun p hp => (K.mem p hp).elim (fun h => by cases h) id
  have hent : ∀ p ∈ md, ∃ f ∈ l, p = (f.1, ((f.2.length : Int), (AB sz f).flatten)) := fun p hp => (K.ent p hp).elim (fun h => by cases h) id
  have hks : ∀ f ∈ l, (∀ k ∈ AB sz f, k.length = sz) ∧ (AB sz f).length ≤ 1048576 := fun f hf => ⟨fun k hk => by
    obtain ⟨c, hc, rfl⟩ := List.mem_map.1 hk
    exact (Ce sz h1 h2 c (by have := (tu f.2 [] 0 (by simp) c hc).2; omega)).2.2, by
    have h3 := CX f.2
    have h4 := hd f hf
    unfold AB
    rw [List.length_map]
    omega⟩
  have hfl : ∀ f ∈ l, (AB sz f).flatten.length = (AB sz f).length * sz := fun f hf => PZ sz _ (hks f hf).1
  have hdiv : ∀ f ∈ l, (AB sz f).flatten.length / sz = (AB sz f).length := fun f hf => by rw [hfl f hf, Nat.mul_div_cancel _ (by omega)]
  have hkf : ∀ f ∈ l, chop sz ((AB sz f).flatten.length / sz) (AB sz f).flatten = AB sz f := fun f hf => by rw [hdiv f hf, LJ sz _ (hks f hf).1]
  have hbig : ∀ f ∈ l, (AB sz f).flatten.length ≤ 67108864 := fun f hf => by
    rw [hfl f hf]
    exact Nat.le_trans (Nat.mul_le_mul (hks f hf).2 h2) (by decide)
  have Xp : OkC m := ⟨K.xq pq.nil, by omega, fun p hp => by
    obtain ⟨f, hf, c, hc, rfl⟩ := hmem p hp
    exact tu f.2 [] 0 (by simp) c hc⟩
  have oke : OkE sz md := ⟨K.srt2 pq.nil, by omega, fun p hp => by
    obtain ⟨f, hf, rfl⟩ := hent p hp
    exact LH (hnm f hf), fun p hp => by
    obtain ⟨f, hf, rfl⟩ := hent p hp
    have := hd f hf
    show (0 : Int) ≤ (f.2.length : Int) ∧ (f.2.length : Int) ≤ 1048576
    omega, fun p hp => by
    obtain ⟨f, hf, rfl⟩ := hent p hp
    have := hbig f hf
    show (AB sz f).flatten.length ≤ 1000000000
    omega⟩
  have okf : OkF sz md := ⟨oke, hlen2, fun p hp => by
    obtain ⟨f, hf, rfl⟩ := hent p hp
    exact hnm f hf, fun p hp => by
    obtain ⟨f, hf, rfl⟩ := hent p hp
    show (AB sz f).flatten.length / sz * sz = (AB sz f).flatten.length
    rw [hdiv f hf, hfl f hf]⟩
  have hs1 : pq ([(n, md)] : Sn) := by unfold pq; simp
  have hnl := LH hn
  refine ⟨fun p => chop sz (p.2.2.length / sz) p.2.2, Xp, fun p hp => ?_, ⟨hs1, by simp, fun p hp => ?_, fun p hp => ?_, fun p hp => ?_⟩, ⟨hs1, by simp, fun p hp => ?_, fun p hp => ?_⟩, ?_, fun p hp => ?_, hlen2, fun k => ?_, K.has (LM _), fun k c hkc => ?_, K.find hnd⟩
  · obtain ⟨f, hf, c, hc, rfl⟩ := hmem p hp; rfl
  · obtain rfl := List.mem_singleton.1 hp; exact hnl
  · obtain rfl := List.mem_singleton.1 hp; exact hn
  · obtain rfl := List.mem_singleton.1 hp; exact okf
  · obtain rfl := List.mem_singleton.1 hp; exact hnl
  · obtain rfl := List.mem_singleton.1 hp; exact oke
  · have e1 := Rj JY 1026 m (fun p hp => by have := (Xp.each p hp).2; simp only [JY, List.length_append, fJ]; omega)
    have e2 := Rj (JZ sz) 1000000100 md (fun p hp => by
      have h3 := (oke.name p hp).2
      have h4 := oke.Uo p hp
      simp only [JZ, List.length_append, fJ, List.length_cons, List.length_nil]
      omega)
    unfold Cj
    simp only [List.length_append, fJ, List.length_cons, List.length_nil, List.map_cons, List.map_nil, List.flatten_cons, List.flatten_nil, J3]
    omega
  · obtain ⟨f, hf, rfl⟩ := hent p hp
    refine ⟨?_, fun k hk => ?_, ?_⟩
    · show (AB sz f).flatten = (chop sz ((AB sz f).flatten.length / sz) (AB sz f).flatten).flatten
      rw [hkf f hf]
    · rw [show chop sz ((AB sz f).flatten.length / sz) (AB sz f).flatten = AB sz f from hkf f hf] at hk
      exact (hks f hf).1 k hk
    · show (chop sz ((AB sz f).flatten.length / sz) (AB sz f).flatten).length ≤ _
      rw [hkf f hf]
      exact (hks f hf).2
  · constructor
    · intro hk
      obtain ⟨ks, hks', hkk⟩ := List.mem_flatten.1 hk
      obtain ⟨p, hp, rfl⟩ := List.mem_map.1 hks'
      obtain ⟨f, hf, rfl⟩ := hent p hp
      rw [show chop sz ((AB sz f).flatten.length / sz) (AB sz f).flatten = AB sz f from hkf f hf] at hkk
      obtain ⟨c, hc, rfl⟩ := List.mem_map.1 hkk
      exact ⟨f, hf, c, hc, rfl⟩
    · rintro ⟨f, hf, c, hc, rfl⟩
      have hp := t_ (K.find hnd f hf)
      refine List.mem_flatten.2 ⟨AB sz f, List.mem_map.2 ⟨_, hp, hkf f hf⟩, List.mem_map.2 ⟨c, hc, rfl⟩⟩
  · obtain ⟨f, hf, c', hc', he⟩ := hmem _ (t_ hkc)
    exact ⟨f, hf, c', hc', congrArg Prod.fst he⟩
end Go.Sx
namespace Go.Sx
open Go.RowKit
set_option linter.unusedVariables false
set_option linter.unusedSimpArgs false
theorem Rk (sz : Nat) (h1 : 1 ≤ sz) (one two : List Fi) (m : Ch) (n : Ky) (md : Gg) (kf : Ky × (Int × List UInt8) → List Ky) (hO : One sz one m n md kf) (m2 : Ch) (md2 : Gg) (hk2 : keepA sz m two = some (m2, md2))
    (hsum : (two.map (fun f => f.2.length)).sum ≤ 1048576) : ∃ q : Nat, lK (sz : Int) (xG m m2) [(n, md)] = some ((q : Int), (sz : Int), m) := by
  have K2 : Td sz m two ([], []) (m2, md2) := Dc two _ _ hk2
  have hs2 : pq m2 := K2.xq pq.nil
  have hag : Agree m m2 := K2.agree (LM _)
  have hsC : pq (xG m m2) := PV m2 m hO.Xp.xq
  have hlen2 : m2.length ≤ 1048576 := by have := K2.len; simp only [List.length_nil] at this; omega
  have hjl : ∀ (x : Ch) (c : Ch), (xG c x).length ≤ c.length + x.length := by
    intro x
    induction x with
    | nil => intro c; exact Nat.le_refl _
    | cons p r ih =>
      intro c
      have h3 := ih (dD c p.1 p.2)
      have h4 := Cf p.1 p.2 c
      show (xG (dD c p.1 p.2) r).length ≤ _
      simp only [List.length_cons]
      omega
  have hml := hO.Xp.len
  have hjoin := hjl m2 m
  unfold lK cZ
  simp only [Option.bind_some]
  rw [P7 sz h1 _ n md kf hO.whole]
  simp only [Option.bind_some]
  obtain ⟨C', q, e1, e2, e3⟩ := EF ((md.map kf).flatten.foldl inc []) (sz : Int) (xG m m2) (xG m m2) 0 (by omega) hsC
  rw [show ((0 : Nat) : Int) = 0 from rfl] at e1
  rw [e1]
  refine ⟨q, ?_⟩
  simp only [Option.bind_some]
  have hCm : C' = m := by
    refine pq.ext e2 hO.Xp.xq fun k => ?_
    have hcount : (aK ((md.map kf).flatten.foldl inc []) k).getD 0 = ((md.map kf).flatten.count k : Int) := by
      have h5 := EE kf md (fun p hp => (hO.whole p hp).len)
      have h6 := hO.few
      have := JO k (md.map kf).flatten [] (by simp [aK]) (by simp only [aK, Option.getD_none]; omega)
      rw [this]
      simp [aK]
    have hj := Lu m2 k m hs2.nodup
    rw [e3, hcount]
    cases hm : aK m k with
    | some c =>
      have hin : k ∈ (md.map kf).flatten := (hO.told k).2 (hO.from_ k c hm)
      have hpos := List.count_pos_iff.2 hin
      rw [if_neg (by rintro ⟨_, h⟩; omega), hj, hm]
      cases hv : aK m2 k with
      | none => rfl
      | some v => rw [hag k v hv c hm]; rfl
    | none =>
      have hnot : k ∉ (md.map kf).flatten := fun hin => by
        obtain ⟨f, hf, c, hc, rfl⟩ := (hO.told k).1 hin
        rw [hO.has f hf c hc] at hm
        cases hm
      have h0 := List.count_eq_zero.2 hnot
      by_cases hkc : k ∈ (xG m m2).map (·.1)
      · rw [if_pos ⟨hkc, by omega⟩]
      · rw [if_neg (fun h => hkc h.1)]
        exact sV.2 hkc
  rw [hCm]
theorem Ut (sz : Nat) (h1 : 1 ≤ sz) (h2 : sz ≤ 64) (one : List Fi) (hl : one.length ≤ 256) (hd : ∀ f ∈ one, f.2.length ≤ 1048576) (m : Ch) (md : Gg) (kf : Ky × (Int × List UInt8) → List Ky) (hO : One sz one m [111, 110, 101] md kf) :
    kH one (sz : Int) m [([111, 110, 101], md)] = some true := by
  unfold kH
  rw [F5 sz h1 m hO.Xp _ hO.oks hO.save]
  simp only [Option.bind_some]
  rw [YO sz h1 h2 m hO.Xp hO.keys _ hO.okg]
  simp only [Option.bind_some, Sum.elim_inr, ne_eq, not_true_eq_false, if_false]
  refine dm (fun i => ((sz : Int), (sz : Int), (i : Int))) one.length (fun i hi => ?_) ?_
  · have hf := List.getElem_mem hi
    have hg := get_ok sz h1 h2 m [([111, 110, 101], md)] [111, 110, 101] md one[i] rfl (hO.find _ hf) (hd _ hf) (hO.has _ hf)
    unfold l_
    simp only []
    rw [if_pos (by omega), dF hi]
    simp only [Option.bind_some]
    rw [hg]
    simp only [Option.bind_some]
    rw [if_neg (by simp), Df _ (by have := hd _ hf; omega)]
    simp only [Option.bind_some, Bool.not_true, Bool.false_eq_true, if_false]
    rw [lF i (by omega)]
  · unfold l_
    simp only []
    rw [if_neg (by omega), Ri sz h1 m _ md kf hO.whole hO.few (fun k hk => by
      obtain ⟨f, hf, c, hc, rfl⟩ := (hO.told k).1 hk
      rw [hO.has f hf c hc]
      exact fun h => by cases h)]
    rfl
theorem P_ (sz : Nat) (h1 : 1 ≤ sz) : dX (sz : Int) [] [] = some (Cj sz [] [], (sz : Int)) := by
  refine F5 sz h1 [] ⟨pq.nil, by simp, fun p hp => by cases hp⟩ [] ⟨pq.nil, by simp, fun p hp => (by cases hp), fun p hp => (by cases hp)⟩ ?_
  simp [Cj, fJ]
theorem G6 (size : UInt8) (one : List (List UInt8 × List UInt8)) (h1 : E5 (fun z_ : List UInt8 × List UInt8 => max z_.1.length (z_.2.length)) one ≤ 1048576) (h1l : one.length ≤ 1048576)
    (two : List (List UInt8 × List UInt8)) (h2 : E5 (fun z_ : List UInt8 × List UInt8 => max z_.1.length (z_.2.length)) two ≤ 1048576) (h2l : two.length ≤ 1048576) : ry size one two = some true := by
  have hd1 : ∀ f ∈ one, f.1.length ≤ 16000000 ∧ f.2.length ≤ 1048576 := fun f hf => by have := JP h1 f hf; omega
  have hd2 : ∀ f ∈ two, f.1.length ≤ 16000000 ∧ f.2.length ≤ 1048576 := fun f hf => by have := JP h2 f hf; omega
  have ht1 := JQ one
  have ht2 := JQ two
  unfold ry
  rw [Ue]
  simp only [Option.bind_some, Bool.not_true, Bool.false_eq_true, if_false]
  obtain ⟨n, hn, hn1, hn2⟩ : ∃ n : Nat, aI (1 + ((size % 64).toNat : Int)) = (n : Int) ∧ 1 ≤ n ∧ n ≤ 64 := by
    have h0 : (size % 64).toNat < 64 := by
      have := UInt8.toNat_mod size 64
      rw [this]
      exact Nat.mod_lt _ (by decide)
    refine ⟨1 + (size % 64).toNat, ?_, by omega, by omega⟩
    rw [fP (by omega)]
    omega
  rw [hn, new_ok n hn1 hn2]
  simp only [Option.bind_some, Sum.elim_inr, ne_eq, not_true_eq_false, if_false]
  rw [PS one (by omega) (fun f hf => by have := (hd1 f hf).2; omega), PS two (by omega) (fun f hf => by have := (hd2 f hf).2; omega)]
  simp only [Option.bind_some]
  rw [P_ n hn1]
  simp only [Option.bind_some]
  rw [Xj n hn1 hn2 [] [] _ one (by decide) hd1]
  simp only [Option.bind_some]
  rcases Decidable.em ((Il n [] [] [111, 110, 101] one).1 = 0) with h0 | h0
  case inr =>
    rw [if_pos h0, P8 n [] [] _ one h0]
    simp only []
    rw [P_ n hn1]
    simp only [Option.bind_some]
    rw [Df _ (by simp [Cj, fJ])]
    simp only [Option.bind_some, if_true]
    unfold nU cZ dH
    simp only [Option.bind_some]
    rw [nP (by simp)]
    simp only [Option.bind_some]
    have : (xq (([] : Sn).map (·.1))).length = 0 := by rw [D_]; rfl
    rw [this]
    rfl
  rw [if_neg (by simpa using h0)]
  obtain ⟨m, md, hk, hse, _, hw, hp⟩ := P9 n [] [] _ one h0
  have hsm : pq m := (Dc one _ _ hk).xq pq.nil
  have hCm : xG [] m = m := by
    refine pq.ext (PV m [] pq.nil) hsm fun k => ?_
    rw [Lu m k [] hsm.nodup]
    cases aK m k <;> rfl
  rw [hp, hCm, show dD ([] : Sn) [111, 110, 101] md = [([111, 110, 101], md)] from rfl]
  simp only []
  obtain ⟨kf, hO⟩ := one_ok n hn1 hn2 one hw (fun f hf => (hd1 f hf).2) (by omega) m md hk hse [111, 110, 101] (by decide)
  rw [F5 n hn1 m hO.Xp _ hO.oks hO.save]
  simp only [Option.bind_some]
  rw [Xj n hn1 hn2 m _ _ two (by decide) hd2]
  simp only [Option.bind_some]
  have hend := Ut n hn1 hn2 one hw (fun f hf => (hd1 f hf).2) m md kf hO
  rcases Decidable.em ((Il n m [([111, 110, 101], md)] [116, 119, 111] two).1 = 0) with h3 | h3
  case inr =>
    rw [if_pos h3, P8 n m _ _ two h3]
    simp only []
    rw [F5 n hn1 m hO.Xp _ hO.oks hO.save]
    simp only [Option.bind_some]
    rw [Df _ hO.save]
    simp only [Option.bind_some, Bool.not_true, Bool.false_eq_true, if_false]
    exact hend
  rw [if_neg (by simpa using h3)]
  obtain ⟨m2, md2, hk2, _, _, hw2, hp2⟩ := P9 n m _ _ two h3
  rw [hp2, show dD ([([111, 110, 101], md)] : Sn) [116, 119, 111] md2 = [([111, 110, 101], md), ([116, 119, 111], md2)] from rfl]
  simp only []
  have hdrop : oD (n : Int) (xG m m2) [([111, 110, 101], md), ([116, 119, 111], md2)] [116, 119, 111] = some (0, (n : Int), [([111, 110, 101], md)]) := rfl
  rw [hdrop]
  simp only [Option.bind_some, not_true_eq_false, if_false]
  obtain ⟨q, hq⟩ := Rk n hn1 one two m _ md kf hO m2 md2 hk2 (by omega)
  rw [hq]
  simp only [Option.bind_some]
  rw [if_neg (by omega), F5 n hn1 m hO.Xp _ hO.oks hO.save]
  simp only [Option.bind_some]
  rw [Df _ hO.save]
  simp only [Option.bind_some, Bool.not_true, Bool.false_eq_true, if_false]
  exact hend
end Go.Sx
