import Derived.Test.YteioojhohpnlkaaSyP
import Derived.Test.YteioojhohpnlkaaMM
namespace Go.Sx
open Go.RowKit
set_option linter.unusedVariables false
set_option linter.unusedSimpArgs false
/-! ### this layer's numbers (pass) -/
theorem may_small : m_argon_may 2 8 1 1 4 = some true := by
  unfold m_argon_may m_argon_bounds
  simp only [Option.bind_some]
  refine whileO_run (fun i => (i : Int)) 5 (fun i hi => ?_) rfl
  match i, hi with
  | 0, _ => rfl
  | 1, _ => rfl
  | 2, _ => rfl
  | 3, _ => rfl
  | 4, _ => rfl
theorem p_l21_PassNames : m_l21_PassNames = some true := by
  unfold m_l21_PassNames m_l21_small m_pass_New m_argon_Check
  rw [may_small]
  rfl
/-! ### bytes alike -/
theorem bw_succ (i : Nat) (h : i ≤ 1000000000) : w64 ((i : Int) + 1) = ((i + 1 : Nat) : Int) := by rw [w64_id (by omega)]; omega
theorem bsame_eq (a b : List UInt8) (ha : a.length ≤ 16000000) : m_r01_Same a b = some (decide (a = b)) := by
  unfold m_r01_Same
  by_cases hn : ((a.length : Nat) : Int) ≠ ((b.length : Nat) : Int)
  · rw [if_pos hn]
    congr 1
    exact (decide_eq_false fun e => hn (by rw [e])).symm
  rw [if_neg hn]
  have hl : a.length = b.length := by omega
  refine whileO_eq (fun i s => s = (i : Int) ∧ i ≤ a.length ∧ a.take i = b.take i) _ a.length _ ⟨rfl, by omega, rfl⟩ ?_
  rintro i s ⟨rfl, hi, he⟩
  unfold m_r01_Same_l0
  by_cases hlt : i < a.length
  · rw [if_pos (by omega), geti_nat hlt, geti_nat (show i < b.length by omega)]
    simp only [Option.bind_some]
    by_cases hx : a[i] = b[i]
    · left
      refine ⟨hlt, _, by rw [if_neg (by simpa using hx)], by rw [bw_succ i (by omega)], by omega, ?_⟩
      rw [List.take_add_one, List.take_add_one, he, List.getElem?_eq_getElem hlt, List.getElem?_eq_getElem (show i < b.length by omega), hx]
    · right
      rw [if_pos hx]
      simp only [Option.map_some, Option.some.injEq, Sum.inr.injEq]
      refine (decide_eq_false fun e => hx ?_).symm
      subst e; rfl
  · right
    obtain rfl : i = a.length := by omega
    rw [if_neg (by omega)]
    simp only [Option.map_some, Option.some.injEq, Sum.inr.injEq]
    rw [List.take_length, hl, List.take_length] at he
    exact (decide_eq_true he).symm
theorem dsame_eq (a b : List UInt8) (ha : a.length ≤ 16000000) : m_l27_same a b = some (decide (a = b)) := by
  unfold m_l27_same
  rw [bsame_eq a b ha]
  rfl
theorem lists_ok (l : List (List UInt8)) (hl : l.length ≤ 16000000) (hr : ∀ x ∈ l, x.length ≤ 16000000) : m_l27_lists l l = some true := by
  unfold m_l27_lists
  rw [if_neg (by simp)]
  refine whileO_run (fun i => (i : Int)) l.length (fun i hi => ?_) ?_
  · unfold m_l27_lists_l0
    rw [if_pos (by omega), geti_nat hi]
    simp only [Option.bind_some]
    rw [dsame_eq _ _ (hr _ (List.getElem_mem hi))]
    simp only [Option.bind_some, decide_true, Bool.not_true, Bool.false_eq_true, if_false]
    rw [bw_succ i (by omega)]
  · unfold m_l27_lists_l0
    rw [if_neg (by omega)]
    rfl
/-! ### chunks -/
def spr (s : UInt64) (x : UInt8) : UInt64 := 2 * s + (UInt64.ofNat x.toNat + 1) * 11400714819323198485
def fullB (n : Nat) (s : UInt64) : Bool := decide (n = 1024) || (decide (64 ≤ n) && decide (shr64 s ((58 : UInt64).toNat) = 0))
def cut : List UInt8 → List UInt8 → UInt64 → List (List UInt8)
  | [], _, _ => []
  | x :: r, p, s => if (fullB (p.length + 1) (spr s x) || r.isEmpty) = true then (p ++ [x]) :: cut r [] 0 else cut r (p ++ [x]) (spr s x)
theorem cut_flat : ∀ (r p : List UInt8) (s : UInt64), r ≠ [] → (cut r p s).flatten = p ++ r
  | [], _, _, h => absurd rfl h
  | x :: r, p, s, _ => by
    unfold cut
    split
    · rename_i hc
      cases r with
      | nil => simp [cut]
      | cons y r => rw [List.flatten_cons, cut_flat (y :: r) [] 0 (by simp)]; simp
    · rename_i hc
      cases r with
      | nil => simp at hc
      | cons y r => rw [cut_flat (y :: r) _ _ (by simp)]; simp
theorem cut_all (data : List UInt8) : (cut data [] 0).flatten = data := by
  cases data with
  | nil => rfl
  | cons x r => rw [cut_flat _ _ _ (by simp)]; rfl
theorem cut_bounds : ∀ (r p : List UInt8) (s : UInt64), p.length < 1024 → ∀ c ∈ cut r p s, 1 ≤ c.length ∧ c.length ≤ 1024
  | [], _, _, _, c, h => by cases h
  | x :: r, p, s, hp, c, h => by
    unfold cut at h
    split at h
    · rcases List.mem_cons.1 h with rfl | h
      · simp; omega
      · exact cut_bounds r [] 0 (by simp) c h
    · rename_i hc
      have hne : p.length + 1 ≠ 1024 := fun e => hc (by simp [fullB, e])
      exact cut_bounds r _ _ (by simp; omega) c h
theorem cut_low : ∀ (r p : List UInt8) (s : UInt64) (i : Nat) (c : List UInt8), (cut r p s)[i]? = some c → i + 1 < (cut r p s).length → 64 ≤ c.length
  | [], _, _, i, c, h, _ => by cases h
  | x :: r, p, s, i, c, h, hl => by
    unfold cut at h hl
    split at h
    · rename_i hc
      rw [if_pos hc] at hl
      cases i with
      | zero =>
        simp only [List.getElem?_cons_zero, Option.some.injEq] at h
        subst h
        cases r with
        | nil => simp [cut] at hl
        | cons y r =>
          simp only [fullB, List.isEmpty_cons, Bool.or_false, Bool.or_eq_true, Bool.and_eq_true, decide_eq_true_eq] at hc
          simp only [List.length_append, List.length_cons, List.length_nil]
          omega
      | succ i =>
        simp only [List.getElem?_cons_succ] at h
        simp only [List.length_cons] at hl
        exact cut_low r [] 0 i c h (by omega)
    · rename_i hc
      rw [if_neg hc] at hl
      exact cut_low r _ _ i c h hl
theorem cut_cons : ∀ (r p : List UInt8) (s : UInt64) (c : List UInt8) (t : List (List UInt8)), cut r p s = c :: t → ∃ q, p ++ r = c ++ q ∧ t = cut q [] 0
  | [], _, _, c, t, h => by cases h
  | x :: r, p, s, c, t, h => by
    unfold cut at h
    split at h
    · simp only [List.cons.injEq] at h
      obtain ⟨rfl, rfl⟩ := h
      exact ⟨r, by simp, rfl⟩
    · obtain ⟨q, h1, h2⟩ := cut_cons r _ _ c t h
      exact ⟨q, by simpa using h1, h2⟩
theorem cut_drop : ∀ (k : Nat) (data : List UInt8), (cut data [] 0).drop k = cut (data.drop ((cut data [] 0).take k).flatten.length) [] 0
  | 0, data => by simp
  | k + 1, data => by
    cases h : cut data [] 0 with
    | nil => simp [cut, show data = [] from by have := cut_all data; rw [h] at this; simpa using this.symm]
    | cons c t =>
      obtain ⟨q, h1, rfl⟩ := cut_cons _ _ _ _ _ h
      simp only [List.nil_append] at h1
      rw [List.drop_succ_cons, cut_drop k q, List.take_succ_cons, List.flatten_cons, List.length_append, h1, ← List.drop_drop, List.drop_left]
theorem cut_count (data : List UInt8) : (cut data [] 0).length ≤ data.length := by
  have h1 := cut_all data
  have h2 := cut_bounds data [] 0 (by simp)
  have key : ∀ l : List (List UInt8), (∀ c ∈ l, 1 ≤ c.length ∧ c.length ≤ 1024) → l.length ≤ l.flatten.length := by
    intro l
    induction l with
    | nil => intro _; simp
    | cons c l ih =>
      intro h
      have := ih fun x hx => h x (List.mem_cons_of_mem _ hx)
      have := (h c List.mem_cons_self).1
      simp only [List.length_cons, List.flatten_cons, List.length_append]
      omega
  have := key _ h2
  rw [h1] at this
  exact this
theorem shl_two (s : UInt64) : shl64 s ((1 : UInt64).toNat) = 2 * s := by
  rw [← UInt64.toNat_inj]
  show ((s.toBitVec <<< 1 : BitVec 64)).toNat = _
  rw [BitVec.toNat_shiftLeft, Nat.shiftLeft_eq, UInt64.toNat_mul]
  show s.toNat * 2 ^ 1 % 2 ^ 64 = (2 * s.toNat) % 2 ^ 64
  rw [Nat.mul_comm]
/-- what a round of either loop asks -/
theorem drop_at (data : List UInt8) (i : Nat) (h : i < data.length) : data.drop i = data[i] :: data.drop (i + 1) := List.drop_eq_getElem_cons h
theorem piece_add (data : List UInt8) (f i : Nat) (hf : f ≤ i) (h : i < data.length) : (data.take (i + 1)).drop f = (data.take i).drop f ++ [data[i]] := by
  rw [List.take_add_one, List.getElem?_eq_getElem h, List.drop_append, List.length_take, show f - min i data.length = 0 from by omega]
  rfl
theorem mchunks_ok (data : List UInt8) (hd : data.length ≤ 1048576) : m_depot_Chunks data = some (cut data [] 0, 0) := by
  unfold m_depot_Chunks
  rw [if_neg (by omega)]
  have go : ∀ (d i f : Nat) (l : List (List UInt8)) (s : UInt64), d + i = data.length → f ≤ i → l.length ≤ i →
      whileO (m_depot_Chunks_l0 data) (l, (f : Int), s, (i : Int)) = some (l ++ cut (data.drop i) ((data.take i).drop f) s, 0) := by
    intro d
    induction d with
    | zero =>
      intro i f l s hdi hf hl
      refine whileO_done ?_
      unfold m_depot_Chunks_l0
      simp only []
      rw [if_neg (by omega), List.drop_eq_nil_of_le (by omega)]
      simp [cut]
    | succ d ih =>
      intro i f l s hdi hf hl
      have hi : i < data.length := by omega
      have hpl : ((data.take i).drop f).length + 1 = i + 1 - f := by simp; omega
      have hw : w64 (w64 ((i : Int) + 1) - (f : Int)) = ((i + 1 - f : Nat) : Int) := by rw [bw_succ i (by omega), w64_id (by omega)]; omega
      have hemp : (data.drop (i + 1)).isEmpty = decide ((i : Int) = w64 (((data.length : Nat) : Int) - 1)) := by
        rw [w64_id (by omega)]
        by_cases he : i + 1 = data.length
        · rw [List.drop_eq_nil_of_le (by omega), decide_eq_true (by omega)]; rfl
        · rw [decide_eq_false (by omega)]
          cases hq : data.drop (i + 1) with
          | nil => have := congrArg List.length hq; simp at this; omega
          | cons _ _ => rfl
      have hcond : ((decide ((w64 ((w64 ((i : Int) + 1)) - (f : Int))) = 1024)) || ((decide (64 ≤ (w64 ((w64 ((i : Int) + 1)) - (f : Int))))) && (decide ((shr64 ((shl64 s ((1 : UInt64).toNat)) + (((UInt64.ofNat data[i].toNat) + 1) * 11400714819323198485)) ((58 : UInt64).toNat)) = 0)))) =
          fullB (((data.take i).drop f).length + 1) (spr s data[i]) := by
        rw [hw, hpl, shl_two]
        unfold fullB spr
        congr 1
        · exact decide_eq_decide.2 (by omega)
        · congr 1
          exact decide_eq_decide.2 (by omega)
      rw [drop_at data i hi]
      unfold cut
      by_cases hc : (fullB (((data.take i).drop f).length + 1) (spr s data[i]) || (data.drop (i + 1)).isEmpty) = true
      · rw [if_pos hc]
        refine (whileO_next (s' := (l ++ [(data.take (i + 1)).drop f], ((i + 1 : Nat) : Int), 0, ((i + 1 : Nat) : Int))) ?_).trans ?_
        · unfold m_depot_Chunks_l0 m_depot_Chunks_j0
          simp only []
          rw [if_pos (by omega), geti_nat hi]
          simp only [Option.bind_some]
          rw [hcond, ← hemp, if_pos hc, bw_succ i (by omega), slc_ok (by omega)]
          simp only [Option.bind_some, Int.toNat_natCast]
          rw [app_ok (by simp; omega)]
          simp only [Option.bind_some, List.nil_append]
          rw [app_ok (by simp; omega)]
          rfl
        · rw [ih (i + 1) (i + 1) _ _ (by omega) (by omega) (by simp; omega), show (data.take (i + 1)).drop (i + 1) = [] from List.drop_eq_nil_of_le (by simp; omega), piece_add data f i hf hi, List.append_assoc]
          rfl
      · rw [if_neg hc, ← piece_add data f i hf hi]
        refine (whileO_next (s' := (l, (f : Int), spr s data[i], ((i + 1 : Nat) : Int))) ?_).trans (ih (i + 1) f l _ (by omega) (by omega) (by omega))
        unfold m_depot_Chunks_l0 m_depot_Chunks_j0
        simp only []
        rw [if_pos (by omega), geti_nat hi]
        simp only [Option.bind_some]
        rw [hcond, ← hemp, if_neg hc, bw_succ i (by omega), shl_two]
        rfl
  have := go data.length 0 0 [] 0 (by omega) (by omega) (by simp)
  simpa using this
theorem rchunks_ok (data : List UInt8) (hd : data.length ≤ 1048576) : m_r27_Chunks data = some (cut data [] 0, 0) := by
  unfold m_r27_Chunks
  rw [if_neg (by omega)]
  have go : ∀ (d i : Nat) (l : List (List UInt8)) (p : List UInt8) (s : UInt64), d + i = data.length → p.length ≤ i → l.length ≤ i →
      whileO (m_r27_Chunks_l0 data) (l, p, s, (i : Int)) = some (l ++ cut (data.drop i) p s, 0) := by
    intro d
    induction d with
    | zero =>
      intro i l p s hdi hp hl
      refine whileO_done ?_
      unfold m_r27_Chunks_l0
      simp only []
      rw [if_neg (by omega), List.drop_eq_nil_of_le (by omega)]
      simp [cut]
    | succ d ih =>
      intro i l p s hdi hp hl
      have hi : i < data.length := by omega
      have hemp : (data.drop (i + 1)).isEmpty = decide ((i : Int) = w64 (((data.length : Nat) : Int) - 1)) := by
        rw [w64_id (by omega)]
        by_cases he : i + 1 = data.length
        · rw [List.drop_eq_nil_of_le (by omega), decide_eq_true (by omega)]; rfl
        · rw [decide_eq_false (by omega)]
          cases hq : data.drop (i + 1) with
          | nil => have := congrArg List.length hq; simp at this; omega
          | cons _ _ => rfl
      have hcond : ((decide (((p.length + 1 : Nat) : Int) = 1024)) || ((decide (64 ≤ ((p.length + 1 : Nat) : Int))) && (decide ((shr64 (((2 : UInt64) * s) + (((UInt64.ofNat data[i].toNat) + 1) * 11400714819323198485)) ((58 : UInt64).toNat)) = 0)))) =
          fullB (p.length + 1) (spr s data[i]) := by
        unfold fullB spr
        congr 1
        · exact decide_eq_decide.2 (by omega)
        · congr 1
          exact decide_eq_decide.2 (by omega)
      rw [drop_at data i hi]
      unfold cut
      by_cases hc : (fullB (p.length + 1) (spr s data[i]) || (data.drop (i + 1)).isEmpty) = true
      · rw [if_pos hc]
        refine (whileO_next (s' := (l ++ [p ++ [data[i]]], [], 0, ((i + 1 : Nat) : Int))) ?_).trans ?_
        · unfold m_r27_Chunks_l0 m_r27_Chunks_j0
          simp only []
          rw [if_pos (by omega), geti_nat hi]
          simp only [Option.bind_some]
          rw [app_ok (by simp; omega)]
          simp only [Option.bind_some]
          rw [hcond, ← hemp, if_pos hc, app_ok (by simp; omega), bw_succ i (by omega)]
          rfl
        · rw [ih (i + 1) _ _ _ (by omega) (by simp) (by simp; omega), List.append_assoc]
          rfl
      · rw [if_neg hc]
        refine (whileO_next (s' := (l, p ++ [data[i]], spr s data[i], ((i + 1 : Nat) : Int))) ?_).trans (ih (i + 1) l _ _ (by omega) (by simp; omega) (by omega))
        unfold m_r27_Chunks_l0 m_r27_Chunks_j0
        simp only []
        rw [if_pos (by omega), geti_nat hi]
        simp only [Option.bind_some]
        rw [app_ok (by simp; omega)]
        simp only [Option.bind_some]
        rw [hcond, ← hemp, if_neg hc, bw_succ i (by omega)]
        rfl
  have := go data.length 0 [] [] 0 (by omega) (by simp) (by simp)
  simpa using this
theorem dawake_ok : m_l27_awake = some true := by
  unfold m_l27_awake
  rw [mchunks_ok _ (by simp)]
  simp only [Option.bind_some]
  rw [show cut ([97, 98, 99] : List UInt8) [] 0 = [[97, 98, 99]] from by decide +kernel]
  rw [if_pos (by decide)]
  rw [show geti ([[97, 98, 99]] : List (List UInt8)) (0 : Int) = some [97, 98, 99] from rfl]
  simp only [Option.bind_some]
  rw [dsame_eq _ _ (by simp)]
  rfl
end Go.Sx
