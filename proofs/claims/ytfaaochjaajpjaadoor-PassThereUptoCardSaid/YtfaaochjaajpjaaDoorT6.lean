import Derived.Test.YtfaaochjaajpjaaDoorT5
namespace Go.Sx
open Go.RowKit
set_option linter.unusedVariables false
set_option linter.unusedSimpArgs false
/-! ### the kind -/
theorem hpre2 (l : List UInt8) (hl : l.length ≤ 4194304) : m_strings_HasPrefix l ([105, 100] : List UInt8) = some (decide (l[0]? = some 105 ∧ l[1]? = some 100)) := by
  unfold m_strings_HasPrefix m_internal_stringslite_HasPrefix
  match l, hl with
  | [], _ => rfl
  | [x], _ => 
    rw [show decide (((([105, 100] : List UInt8).length : Nat) : Int) ≤ (([x].length : Nat) : Int)) = false from rfl, gif0 _ rfl, Option.bind_some, Option.bind_some]
    congr 1
    exact (decide_eq_false (fun q => by cases q.2)).symm
  | x :: y :: r, hl =>
    have hd : decide (((([105, 100] : List UInt8).length : Nat) : Int) ≤ (((x :: y :: r).length : Nat) : Int)) = true := decide_eq_true (by simp only [List.length_cons, List.length_nil]; omega)
    rw [hd, gif1 _ rfl, show slc (x :: y :: r) 0 ((([105, 100] : List UInt8).length : Nat) : Int) = some [x, y] from by rw [slc_ok ⟨by omega, by simp, by simp only [List.length_cons, List.length_nil]; omega⟩]; rfl, Option.bind_some, Option.bind_some, Bool.true_and]
    congr 1
    refine decide_eq_decide.2 ⟨fun q => ?_, fun q => ?_⟩
    · injection q with q1 q2
      injection q2 with q3 q4
      exact ⟨by rw [← q1]; rfl, by rw [← q3]; rfl⟩
    · have q1 := Option.some.inj q.1
      have q2 := Option.some.inj q.2
      rw [q1, q2]
theorem hpre1 (l : List UInt8) (hl : l.length ≤ 4194304) : m_strings_HasPrefix l ([105] : List UInt8) = some (decide (l[0]? = some 105)) := by
  unfold m_strings_HasPrefix m_internal_stringslite_HasPrefix
  match l, hl with
  | [], _ => rfl
  | x :: r, hl =>
    have hd : decide (((([105] : List UInt8).length : Nat) : Int) ≤ (((x :: r).length : Nat) : Int)) = true := decide_eq_true (by simp only [List.length_cons, List.length_nil]; omega)
    rw [hd, gif1 _ rfl, show slc (x :: r) 0 ((([105] : List UInt8).length : Nat) : Int) = some [x] from by rw [slc_ok ⟨by omega, by simp, by simp only [List.length_cons, List.length_nil]; omega⟩]; rfl, Option.bind_some, Option.bind_some, Bool.true_and]
    congr 1
    refine decide_eq_decide.2 ⟨fun q => ?_, fun q => ?_⟩
    · injection q with q1 q2
      rw [← q1]; rfl
    · have q1 := Option.some.inj q
      rw [q1]
def kindS (s : List UInt8) (a : Nat) (ok : Bool) : Int × Nat × Bool :=
  if ok = true then (if s[a]? = some 105 then (if s[a + 1]? = some 100 then (2, a + 2, true) else (1, a + 1, true)) else if s[a]? = some 100 then (0, a + 1, true) else (0, a, false)) else (0, a, false)
theorem kindS_le (s : List UInt8) (a : Nat) (ok : Bool) (ha : a ≤ s.length) : (kindS s a ok).2.1 ≤ s.length := by
  unfold kindS
  split
  · split
    · rename_i h
      obtain ⟨h2, _⟩ := List.getElem?_eq_some_iff.1 h
      split
      · rename_i h
        obtain ⟨h3, _⟩ := List.getElem?_eq_some_iff.1 h
        show a + 2 ≤ _; omega
      · show a + 1 ≤ _; omega
    · split
      · rename_i h
        obtain ⟨h3, _⟩ := List.getElem?_eq_some_iff.1 h
        show a + 1 ≤ _; omega
      · exact ha
  · exact ha
section
variable (s : List UInt8) (hs : s.length ≤ 4194304)
include hs
theorem kind_r (a : Nat) (ha : a ≤ s.length) (ok : Bool) : ∃ k', m_r21_reading_kind s (a : Int) (!ok) = some (k', s, ((kindS s a ok).2.1 : Int), !(kindS s a ok).2.2) ∧ ((kindS s a ok).2.2 = true → k' = (kindS s a ok).1) := by
  unfold m_r21_reading_kind
  cases ok with
  | false => exact ⟨0, rfl, fun q => by cases q⟩
  | true =>
    unfold kindS
    rw [if_pos (rfl : true = true)]
    by_cases hlt : a < s.length
    · rw [if_neg (tf1 (a := !true) rfl (decide_eq_false (by omega))), geti_nat hlt, Option.bind_some, List.getElem?_eq_getElem hlt]
      by_cases h100 : s[a] = 100
      · rw [if_pos h100, if_neg (by rw [h100]; decide), if_pos (by rw [h100]), wS a (by omega)]
        exact ⟨0, rfl, fun _ => rfl⟩
      · have hl := lit_r s hs ([105] : List UInt8) (by decide) a ha true
        rw [if_neg h100, hl, Option.bind_some]
        by_cases h105 : s[a] = 105
        · have e : litS s a true [105] = (a + 1, true) := by
            unfold litS
            rw [if_pos rfl, if_pos (by rw [List.getElem?_eq_getElem hlt, h105])]
            rfl
          rw [e, if_pos (by rw [h105])]
          dsimp only
          by_cases hlt2 : a + 1 < s.length
          · have d1 : decide (((a + 1 : Nat) : Int) < (s.length : Int)) = true := decide_eq_true (by omega)
            rw [d1, gif1 (c := (!!true) && true) _ rfl, geti_nat hlt2, Option.bind_some, List.getElem?_eq_getElem hlt2]
            by_cases h : s[a + 1] = 100
            · rw [if_pos (ft1 (a := (!!true) && true) rfl (decide_eq_true h)), if_pos (by rw [h]), wS (a + 1) (by omega)]
              exact ⟨2, rfl, fun _ => rfl⟩
            · rw [if_neg (ft3 (decide_eq_false h)), if_neg (fun q => h (Option.some.inj q))]
              exact ⟨1, rfl, fun _ => rfl⟩
          · have d1 : decide (((a + 1 : Nat) : Int) < (s.length : Int)) = false := decide_eq_false (by omega)
            rw [d1, gif0 (c := (!!true) && false) _ rfl, Option.bind_some, if_neg (ft2 (a := (!!true) && false) rfl), List.getElem?_eq_none (by omega), if_neg (fun q => by cases q)]
            exact ⟨1, rfl, fun _ => rfl⟩
        · have e : litS s a true [105] = (a, false) := by
            unfold litS
            rw [if_pos rfl, if_neg (by rw [List.getElem?_eq_getElem hlt]; exact fun q => h105 (Option.some.inj q))]
          rw [e, if_neg (fun q => h105 (Option.some.inj q)), if_neg (fun q => h100 (Option.some.inj q))]
          dsimp only
          rw [gif0 (c := (!!false) && _) _ rfl, Option.bind_some, if_neg (ft2 (a := (!!false) && _) rfl)]
          exact ⟨1, rfl, fun q => by cases q⟩
    · rw [if_pos (tf3 (decide_eq_true (by omega))), List.getElem?_eq_none (by omega), if_neg (fun q => by cases q), if_neg (fun q => by cases q)]
      exact ⟨0, rfl, fun q => by cases q⟩
theorem parse_k : m_pass_Parse s = m_pass_Parse_j0 s s ((kindS s (litS s 0 true [36, 97, 114, 103, 111, 110, 50]).1 (litS s 0 true [36, 97, 114, 103, 111, 110, 50]).2).2.1 : Int) (kindS s (litS s 0 true [36, 97, 114, 103, 111, 110, 50]).1 (litS s 0 true [36, 97, 114, 103, 111, 110, 50]).2).2.2 (kindS s (litS s 0 true [36, 97, 114, 103, 111, 110, 50]).1 (litS s 0 true [36, 97, 114, 103, 111, 110, 50]).2).1 := by
  have h1 := lit_p s hs ([36, 97, 114, 103, 111, 110, 50] : List UInt8) (by decide) 0 (by omega) true
  have hle := litS_le s [36, 97, 114, 103, 111, 110, 50] 0 true (by omega)
  unfold m_pass_Parse
  rw [show (0 : Int) = ((0 : Nat) : Int) from rfl, h1, Option.bind_some]
  generalize litS s 0 true [36, 97, 114, 103, 111, 110, 50] = x at hle ⊢
  obtain ⟨a, ok⟩ := x
  dsimp only at hle ⊢
  have hd : slc s (a : Int) (s.length : Int) = some (s.drop a) := by rw [slcN s a s.length hle (Nat.le_refl _), List.take_length]
  have hdl : (s.drop a).length ≤ 4194304 := by rw [List.length_drop]; omega
  have g0 : (s.drop a)[0]? = s[a]? := by rw [List.getElem?_drop, Nat.add_zero]
  have g1 : (s.drop a)[1]? = s[a + 1]? := by rw [List.getElem?_drop]
  have hlit := lit_p s hs ([100] : List UInt8) (by decide) a hle ok
  cases ok with
  | false =>
    rw [if_neg (by decide), if_neg (by decide), hlit, Option.bind_some, litS_no]
    rfl
  | true =>
    rw [if_pos rfl, hd, Option.bind_some, hpre2 _ hdl, Option.bind_some, g0, g1]
    unfold kindS
    rw [if_pos rfl]
    by_cases h105 : s[a]? = some 105
    · obtain ⟨hl1, _⟩ := List.getElem?_eq_some_iff.1 h105
      by_cases h100 : s[a + 1]? = some 100
      · obtain ⟨hl2, _⟩ := List.getElem?_eq_some_iff.1 h100
        rw [if_pos (decide_eq_true ⟨h105, h100⟩), if_pos h105, if_pos h100, show w64 ((a : Int) + 2) = ((a + 2 : Nat) : Int) from by rw [w64_id] <;> omega]
        rfl
      · rw [if_neg (by rw [decide_eq_false (fun q => h100 q.2)]; decide), if_pos rfl, Option.bind_some, hpre1 _ hdl, Option.bind_some, g0, if_pos (decide_eq_true h105), if_pos h105, if_neg h100, wS a (by omega)]
    · rw [if_neg (by rw [decide_eq_false (fun q => h105 q.1)]; decide), if_pos rfl, Option.bind_some, hpre1 _ hdl, Option.bind_some, g0, if_neg (by rw [decide_eq_false h105]; decide), hlit, Option.bind_some, if_neg h105]
      unfold litS
      rw [if_pos rfl]
      by_cases h100 : s[a]? = some 100
      · rw [if_pos h100, if_pos h100]
        rfl
      · rw [if_neg h100, if_neg h100]
        rfl
end
end Go.Sx
