import Derived.Test.YtjddlmbpkkbkoaaGreatQ24
namespace Go.Sx
open Go.RowKit
set_option linter.unusedVariables false
set_option linter.unusedSimpArgs false
abbrev KL := List (List UInt8 × List UInt8)
theorem kfind_first {ks : List (List UInt8)} {k : List UInt8} : ∀ {i : Nat}, ks[i]? = some k → (∀ j, j < i → ks[j]? ≠ some k) → kfind ks k = some i := by
  induction ks with
  | nil => intro i h _; cases h
  | cons x r ih =>
    intro i h hj
    unfold kfind
    cases i with
    | zero => rw [if_pos (by simpa using h)]
    | succ i =>
      rw [if_neg (fun e => hj 0 (by omega) (by rw [e]; rfl)), ih (by simpa using h) (fun j hlt => by simpa using hj (j + 1) (by omega))]
      rfl
def fidx (o : Option Nat) : Int := match o with | some i => (i : Int) | none => -1
theorem rfind_ok (md : Bool) (kd n : Int) (L : KL) (name : List UInt8) (hL : L.length ≤ 256) : m_r06_find md kd n L name = some (fidx (kfind (L.map (·.1)) name)) := by
  unfold m_r06_find
  refine whileO_eq (fun i s => s = (i : Int) ∧ i ≤ L.length ∧ ∀ j, j < i → (L.map (·.1))[j]? ≠ some name) _ L.length _ ⟨rfl, by omega, fun j h => by omega⟩ ?_
  rintro i s ⟨rfl, hi, hj⟩
  unfold m_r06_find_l0
  by_cases hlt : i < L.length
  · rw [if_pos (by omega), geti_nat hlt]
    simp only [Option.bind_some]
    by_cases hc : L[i].1 = name
    · right
      rw [if_pos hc, kfind_first (i := i) (by simp [hlt, hc]) hj]
      rfl
    · left
      rw [if_neg hc]
      refine ⟨hlt, _, rfl, w64_succ i (by omega), by omega, ?_⟩
      intro j hj2
      by_cases e : j = i
      · subst e; simp [hlt, hc]
      · exact hj j (by omega)
  · right
    rw [if_neg (by omega)]
    have : kfind (L.map (·.1)) name = none := by
      rw [kfind_none]
      intro hm
      obtain ⟨j, hjl, he⟩ := List.getElem_of_mem hm
      exact hj j (by simp at hjl; omega) (by rw [List.getElem?_eq_getElem hjl, he])
    rw [this]
    rfl
def insK (name own : List UInt8) : KL → KL
  | [] => [(name, own)]
  | x :: r => if name < x.1 then (name, own) :: x :: r else x :: insK name own r
theorem insK_cons (name own : List UInt8) (x : List UInt8 × List UInt8) (r : KL) : insK name own (x :: r) = if name < x.1 then (name, own) :: x :: r else x :: insK name own r := rfl
theorem insK_perm (name own : List UInt8) : ∀ L : KL, (insK name own L).Perm ((name, own) :: L)
  | [] => List.Perm.refl _
  | x :: r => by
    unfold insK
    split
    · exact List.Perm.refl _
    · exact ((insK_perm name own r).cons x).trans (List.Perm.swap _ _ _)
theorem insK_sorted (name own : List UInt8) : ∀ L : KL, (L.map (·.1)).Pairwise (fun a b => leB a b = true) → ((insK name own L).map (·.1)).Pairwise (fun a b => leB a b = true)
  | [], _ => by simp [insK]
  | x :: r, h => by
    have h' := List.pairwise_cons.1 h
    unfold insK
    split
    · rename_i hlt
      refine List.pairwise_cons.2 ⟨?_, h⟩
      intro b hb
      have hx : name ≤ x.1 := List.le_of_lt hlt
      simp only [List.map_cons, List.mem_cons] at hb
      rcases hb with rfl | hb
      · simpa [leB] using hx
      · have := h'.1 b hb
        simp only [leB, decide_eq_true_eq] at this ⊢
        exact List.le_trans hx this
    · rename_i hlt
      refine List.pairwise_cons.2 ⟨?_, insK_sorted name own r h'.2⟩
      intro b hb
      have hp := ((insK_perm name own r).map (·.1)).mem_iff.1 hb
      simp only [List.map_cons, List.mem_cons] at hp
      rcases hp with rfl | hp
      · simpa [leB] using List.not_lt.1 hlt
      · exact h'.1 b hp
theorem insK_get (name own b : List UInt8) : ∀ L : KL, name ∉ L.map (·.1) → mget ((insK name own L).map (·.1)) ((insK name own L).map (·.2)) b = if name = b then some own else mget (L.map (·.1)) (L.map (·.2)) b
  | [], _ => by unfold insK; rw [List.map_cons, List.map_cons, mget_cons]
  | x :: r, h => by
    simp only [List.map_cons, List.mem_cons, not_or] at h
    unfold insK
    split
    · simp only [List.map_cons, mget_cons]
    · simp only [List.map_cons, mget_cons, insK_get name own b r h.2]
      by_cases e : x.1 = b
      · rw [if_pos e, if_pos e, if_neg (fun e2 => h.1 (e2.trans e.symm))]
      · rw [if_neg e, if_neg e]
theorem radd_loop (md : Bool) (kd n : Int) (L : KL) (name own : List UInt8) (hL : L.length ≤ 256) : whileO (m_r06_Add_l0 md kd n L name own) (([] : KL), false, (0 : Int)) = some (Sum.inr (md, kd, n, insK name own L)) := by
  refine whileO_eq (fun i s => ∃ out done, s = (out, done, (i : Int)) ∧ i ≤ L.length ∧ out.length ≤ i + (if done = true then 1 else 0) ∧ out ++ (if done = true then L.drop i else insK name own (L.drop i)) = insK name own L) _ L.length _ ⟨[], false, rfl, by omega, by simp, by simp⟩ ?_
  rintro i s ⟨out, done, rfl, hi, ho, he⟩
  unfold m_r06_Add_l0
  simp only []
  by_cases hlt : i < L.length
  · left
    refine ⟨hlt, ?_⟩
    rw [if_pos (by omega)]
    have hd : L.drop i = L[i] :: L.drop (i + 1) := List.drop_eq_getElem_cons hlt
    rw [hd] at he
    cases done with
    | true =>
      rw [if_pos rfl] at ho
      have e1 : gif (!true) (geti L (i : Int)) = some default := rfl
      rw [e1]
      simp only [Option.bind_some, Bool.not_true, Bool.false_and]
      rw [if_neg (by decide)]
      unfold m_r06_Add_j1 m_r06_Add_j0
      rw [geti_nat hlt]
      simp only [Option.bind_some]
      rw [app_ok (by simp; omega)]
      simp only [Option.bind_some]
      refine ⟨_, rfl, _, true, by rw [w64_succ i (by omega)], by omega, by rw [if_pos rfl]; simp; omega, ?_⟩
      rw [List.append_assoc]; exact he
    | false =>
      rw [if_neg (by decide)] at ho
      have e1 : gif (!false) (geti L (i : Int)) = geti L (i : Int) := rfl
      rw [e1, geti_nat hlt]
      simp only [Option.bind_some, Bool.not_false, Bool.true_and]
      rw [Go.Proofs.bytesLess_eq]
      rw [if_neg (by decide), insK_cons] at he
      by_cases hc : name < L[i].1
      · rw [if_pos (by simpa using hc)]
        rw [if_pos hc] at he
        rw [app_ok (by simp; omega)]
        simp only [Option.bind_some]
        unfold m_r06_Add_j1 m_r06_Add_j0
        rw [geti_nat hlt]
        simp only [Option.bind_some]
        rw [app_ok (by simp; omega)]
        simp only [Option.bind_some]
        refine ⟨_, rfl, _, true, by rw [w64_succ i (by omega)], by omega, ?_, ?_⟩
        · rw [if_pos rfl]; simp; omega
        · rw [List.append_assoc, List.append_assoc]; exact he
      · rw [if_neg (by simpa using hc)]
        rw [if_neg hc] at he
        unfold m_r06_Add_j1 m_r06_Add_j0
        rw [geti_nat hlt]
        simp only [Option.bind_some]
        rw [app_ok (by simp; omega)]
        simp only [Option.bind_some]
        refine ⟨_, rfl, _, false, by rw [w64_succ i (by omega)], by omega, ?_, ?_⟩
        · rw [if_neg (by decide)]; simp; omega
        · rw [List.append_assoc]; exact he
  · right
    have hi' : i = L.length := by omega
    subst hi'
    rw [if_neg (by omega)]
    have ho' : out.length ≤ L.length + 1 := by split at ho <;> omega
    cases done with
    | true =>
      simp at he
      rw [if_neg (by decide)]
      unfold m_r06_Add_j2
      rw [he]; rfl
    | false =>
      simp [insK] at he
      rw [if_pos (by decide), app_ok (by simp; omega)]
      simp only [Option.bind_some]
      unfold m_r06_Add_j2
      rw [he]; rfl
theorem rdrop_loop (md : Bool) (kd n : Int) (L : KL) (at_ : Nat) (hL : L.length ≤ 256) : whileO (m_r06_Drop_l0 md kd n L (at_ : Int)) (([] : KL), (0 : Int)) = some (Sum.inr (md, kd, n, L.eraseIdx at_)) := by
  refine whileO_eq (fun i s => s = ((L.take i).eraseIdx at_, (i : Int)) ∧ i ≤ L.length) _ L.length _ ⟨by simp, by omega⟩ ?_
  rintro i s ⟨rfl, hi⟩
  unfold m_r06_Drop_l0
  simp only []
  by_cases hlt : i < L.length
  · left
    refine ⟨hlt, ?_⟩
    rw [if_pos (by omega)]
    have ht : L.take (i + 1) = L.take i ++ [L[i]] := List.take_succ_eq_append_getElem hlt
    have hll : (L.take i).length = i := by simp; omega
    unfold m_r06_Drop_j0
    by_cases hc : i = at_
    · subst hc
      rw [if_neg (by simp)]
      refine ⟨_, rfl, ?_, by omega⟩
      rw [w64_succ i (by omega), ht, List.eraseIdx_append_of_length_le (by omega), hll, Nat.sub_self, List.eraseIdx_of_length_le (by omega)]
      simp
    · rw [if_pos (by omega), geti_nat hlt]
      simp only [Option.bind_some]
      have hle : ((L.take i).eraseIdx at_).length ≤ i := by rw [List.length_eraseIdx]; split <;> omega
      rw [app_ok (by simp; omega)]
      simp only [Option.bind_some]
      refine ⟨_, rfl, ?_, by omega⟩
      rw [w64_succ i (by omega), ht]
      by_cases h2 : at_ < i
      · rw [List.eraseIdx_append_of_lt_length (by omega)]
      · rw [List.eraseIdx_append_of_length_le (by omega), hll, List.eraseIdx_of_length_le (l := L.take i) (by omega), List.eraseIdx_of_length_le (l := [L[i]]) (by simp; omega)]
  · right
    have hi' : i = L.length := by omega
    subst hi'
    rw [if_neg (by omega), List.take_length]
    rfl
theorem rnames_ok (md : Bool) (kd n : Int) (L : KL) (hL : L.length ≤ 256) : m_r06_Names md kd n L = some (L.map (·.1)) := by
  unfold m_r06_Names
  refine whileO_eq (fun i s => s = ((L.take i).map (·.1), (i : Int)) ∧ i ≤ L.length) _ L.length _ ⟨by simp, by omega⟩ ?_
  rintro i s ⟨rfl, hi⟩
  unfold m_r06_Names_l0
  simp only []
  by_cases hlt : i < L.length
  · left
    refine ⟨hlt, ?_⟩
    rw [if_pos (by omega), geti_nat hlt]
    simp only [Option.bind_some]
    rw [app_ok (by simp; omega)]
    simp only [Option.bind_some]
    refine ⟨_, rfl, ?_, by omega⟩
    rw [w64_succ i (by omega), List.take_succ_eq_append_getElem hlt, List.map_append]
    rfl
  · right
    have hi' : i = L.length := by omega
    subst hi'
    rw [if_neg (by omega), List.take_length]
    rfl
def okc (c : UInt8) : Bool := !((decide (c < 33)) || (decide ((126 : UInt8) < c)))
theorem lab_loops (s : List UInt8) (hs : s.length ≤ 16000000) : ∀ (m i : Nat), i + m = s.length → whileO (m_mac_label_l0 s) (i : Int) = some ((s.drop i).all okc && ((decide (1 ≤ (s.length : Int))) && (decide ((s.length : Int) ≤ 64)))) ∧ whileO (m_r06_Label_l0 s) (i : Int) = some ((s.drop i).all okc) := by
  intro m
  induction m with
  | zero =>
    intro i hi
    have hi' : i = s.length := by omega
    subst hi'
    constructor
    · refine whileO_done ?_
      unfold m_mac_label_l0
      rw [if_neg (by omega)]; simp
    · refine whileO_done ?_
      unfold m_r06_Label_l0
      rw [if_neg (by omega)]; simp
  | succ m ih =>
    intro i hi
    have hlt : i < s.length := by omega
    obtain ⟨h1, h2⟩ := ih (i + 1) (by omega)
    have hd : s.drop i = s[i] :: s.drop (i + 1) := List.drop_eq_getElem_cons hlt
    rw [hd, List.all_cons]
    have hgif : gif (!(decide (s[i] < 33))) (some s[i]) = some (if s[i] < 33 then default else s[i]) := by by_cases hc : s[i] < 33 <;> simp [gif, hc]
    have key : ((decide (s[i] < 33)) || (decide ((126 : UInt8) < (if s[i] < 33 then default else s[i])))) = !okc s[i] := by
      unfold okc
      by_cases hc : s[i] < 33 <;> simp [hc]
    constructor
    · by_cases hk : okc s[i] = true
      · rw [hk, Bool.true_and, ← h1]
        refine whileO_next ?_
        unfold m_mac_label_l0
        rw [if_pos (by omega), geti_nat hlt]
        simp only [Option.bind_some, hgif, key, hk]
        rw [if_neg (by decide), w64_succ i (by omega)]
      · refine whileO_done ?_
        unfold m_mac_label_l0
        rw [if_pos (by omega), geti_nat hlt]
        simp only [Option.bind_some, hgif, key, hk]
        simp at hk
        simp [hk]
    · by_cases hk : okc s[i] = true
      · rw [hk, Bool.true_and, ← h2]
        refine whileO_next ?_
        unfold m_r06_Label_l0
        rw [if_pos (by omega), geti_nat hlt]
        simp only [Option.bind_some, hgif, key, hk]
        rw [if_neg (by decide), w64_succ i (by omega)]
      · refine whileO_done ?_
        unfold m_r06_Label_l0
        rw [if_pos (by omega), geti_nat hlt]
        simp only [Option.bind_some, hgif, key, hk]
        simp at hk
        simp [hk]
theorem label_same (s : List UInt8) (hs : s.length ≤ 16000000) : ∃ b, m_mac_label s = some b ∧ m_r06_Label s = some b := by
  obtain ⟨h1, h2⟩ := lab_loops s hs s.length 0 (by omega)
  refine ⟨_, h1, ?_⟩
  unfold m_r06_Label
  by_cases hc : ((decide ((s.length : Int) < 1)) || (decide (64 < (s.length : Int)))) = true
  · rw [if_pos hc]
    have : ((decide (1 ≤ (s.length : Int))) && (decide ((s.length : Int) ≤ 64))) = false := by
      simp only [Bool.or_eq_true, decide_eq_true_eq] at hc
      simp only [Bool.and_eq_false_iff, decide_eq_false_iff_not]; omega
    rw [this, Bool.and_false]
  · rw [if_neg hc]
    have : ((decide (1 ≤ (s.length : Int))) && (decide ((s.length : Int) ≤ 64))) = true := by
      simp only [Bool.or_eq_true, decide_eq_true_eq] at hc
      simp only [Bool.and_eq_true, decide_eq_true_eq]; omega
    rw [this, Bool.and_true]
    exact h2
structure Im (ks xs : List (List UInt8)) (L : KL) : Prop where
  len : ks.length = xs.length
  le : ks.length ≤ 256
  nd : ks.Nodup
  srt_ : srt ks = L.map (·.1)
  get : ∀ b, mget ks xs b = mget (L.map (·.1)) (L.map (·.2)) b
section
variable {ks xs : List (List UInt8)} {L : KL}
theorem srt_self {l : List (List UInt8)} (h : l.Pairwise (fun a b => leB a b = true)) : srt l = l := List.mergeSort_of_pairwise h
theorem srt_pw (l : List (List UInt8)) : (srt l).Pairwise (fun a b => leB a b = true) := by
  have tr : ∀ a b c : List UInt8, leB a b = true → leB b c = true → leB a c = true := fun a b c h1 h2 => by simp only [leB, decide_eq_true_eq] at *; exact List.le_trans h1 h2
  have to : ∀ a b : List UInt8, (leB a b || leB b a) = true := fun a b => by simp only [leB, Bool.or_eq_true, decide_eq_true_eq]; exact List.le_total a b
  exact List.pairwise_mergeSort tr to l
theorem srt_p (l : List (List UInt8)) : (srt l).Perm l := List.mergeSort_perm _ _
theorem Im.perm (h : Im ks xs L) : ks.Perm (L.map (·.1)) := by rw [← h.srt_]; exact (srt_p ks).symm
theorem Im.pw (h : Im ks xs L) : (L.map (·.1)).Pairwise (fun a b => leB a b = true) := by rw [← h.srt_]; exact srt_pw ks
theorem Im.llen (h : Im ks xs L) : L.length = ks.length := by have := h.perm.length_eq; simpa using this.symm
theorem Im.lnd (h : Im ks xs L) : (L.map (·.1)).Nodup := h.perm.nodup_iff.1 h.nd
theorem Im.nil : Im [] [] [] := ⟨rfl, by simp, List.nodup_nil, by simp [srt], fun _ => rfl⟩
theorem Im.kf (h : Im ks xs L) (b : List UInt8) : mget ks xs b = none ↔ kfind (L.map (·.1)) b = none := by
  constructor
  · intro e
    rw [kfind_none, ← h.perm.mem_iff]
    intro hm
    obtain ⟨v, hv⟩ := mget_mem h.len hm
    rw [hv] at e; cases e
  · intro e
    rw [h.get]; exact mget_none e
theorem Im.add (h : Im ks xs L) (name key : List UInt8) (hg : mget ks xs name = none) (hc : ks.length < 256) : Im (ks ++ [name]) (xs ++ [key]) (insK name key L) := by
  have hn : name ∉ L.map (·.1) := kfind_none.1 ((h.kf name).1 hg)
  have hn2 : name ∉ ks := fun hm => hn (h.perm.mem_iff.1 hm)
  refine ⟨by simp [h.len], by simp; omega, ?_, ?_, ?_⟩
  · rw [List.nodup_append]
    exact ⟨h.nd, by simp, fun a ha b hb => by simp at hb; subst hb; exact fun e => hn2 (e ▸ ha)⟩
  · have hp : (ks ++ [name]).Perm ((insK name key L).map (·.1)) := by
      refine (List.perm_append_comm).trans ?_
      refine (List.Perm.cons name h.perm).trans ?_
      exact ((insK_perm name key L).map (·.1)).symm
    rw [srt_perm hp, srt_self (insK_sorted name key L h.pw)]
  · intro b
    rw [insK_get name key b L hn]
    by_cases e : name = b
    · subst e
      rw [if_pos rfl]
      have hk : kfind (ks ++ [name]) name = some ks.length := kfind_first (by simp) (fun j hj e => by
        rw [List.getElem?_append_left hj] at e
        exact hn2 (List.mem_of_getElem? e))
      exact mget_some hk (by simp [h.len])
    · rw [if_neg e, mget_app name key b ks xs h.len (fun e2 => e e2.symm), h.get]
theorem perm_erase {l : List (List UInt8)} {i : Nat} {x : List UInt8} (h : l[i]? = some x) : l.Perm (x :: l.eraseIdx i) := perm_cut h
theorem Im.drop (h : Im ks xs L) (name : List UInt8) (j i : Nat) (hj : kfind ks name = some j) (hi : kfind (L.map (·.1)) name = some i) : Im (ks.eraseIdx j) (xs.eraseIdx j) (L.eraseIdx i) := by
  have p1 := perm_erase (kfind_some hj)
  have p2 := perm_erase (kfind_some hi)
  have p3 : (ks.eraseIdx j).Perm ((L.map (·.1)).eraseIdx i) := ((p1.symm.trans h.perm).trans p2).cons_inv
  have nd1 : name ∉ ks.eraseIdx j := (List.nodup_cons.1 (p1.nodup_iff.1 h.nd)).1
  have nd2 : name ∉ (L.map (·.1)).eraseIdx i := fun hm => nd1 (p3.mem_iff.2 hm)
  refine ⟨by simp [List.length_eraseIdx, h.len], ?_, (List.nodup_cons.1 (p1.nodup_iff.1 h.nd)).2, ?_, ?_⟩
  · have := h.le
    rw [List.length_eraseIdx]; split <;> omega
  · rw [srt_perm p3, map_erase, srt_self (h.pw.sublist (List.eraseIdx_sublist _ _))]
  · intro b
    rw [map_erase, map_erase]
    by_cases e : b = name
    · subst e
      rw [mget_none (kfind_none.2 nd1), mget_none (kfind_none.2 nd2)]
    · rw [mget_del name b ks xs j h.len hj e, mget_del name b _ _ i (by simp) hi e, h.get]
end
end Go.Sx

