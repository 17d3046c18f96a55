import Derived.Test.YtfaaochjaajpjaaDoorT1
namespace Go.Sx
open Go.RowKit
set_option linter.unusedVariables false
set_option linter.unusedSimpArgs false
/-! ### texts read from the left -/
theorem wN (n : Nat) (h : n < 9223372036854775808) : w64 (n : Int) = (n : Int) := by rw [w64_id] <;> omega
theorem wS (n : Nat) (h : n < 9223372036854775807) : w64 ((n : Int) + 1) = ((n + 1 : Nat) : Int) := by rw [w64_id] <;> omega
theorem tf1 {a b : Bool} (h1 : a = false) (h2 : b = false) : ¬ ((a || b) = true) := by rw [h1, h2]; decide
theorem tf2 {a b : Bool} (h1 : a = true) : (a || b) = true := by rw [h1]; rfl
theorem tf3 {a b : Bool} (h1 : b = true) : (a || b) = true := by rw [h1, Bool.or_true]
theorem ft1 {a b : Bool} (h1 : a = true) (h2 : b = true) : (a && b) = true := by rw [h1, h2]; rfl
theorem ft2 {a b : Bool} (h1 : a = false) : ¬ ((a && b) = true) := by rw [h1, Bool.false_and]; decide
theorem ft3 {a b : Bool} (h1 : b = false) : ¬ ((a && b) = true) := by rw [h1, Bool.and_false]; decide
theorem gif1 {β : Type} [Inhabited β] {c : Bool} (o : Option β) (h : c = true) : gif c o = o := by rw [h]; rfl
theorem gif0 {β : Type} [Inhabited β] {c : Bool} (o : Option β) (h : c = false) : gif c o = some default := by rw [h]; rfl
theorem gifNF {β : Type} [Inhabited β] (o : Option β) : gif (!false) o = o := rfl
theorem gifNT {β : Type} [Inhabited β] (o : Option β) : gif (!true) o = some default := rfl
/-- just these letters -/
def litS (s : List UInt8) : Nat → Bool → List UInt8 → Nat × Bool
  | a, ok, [] => (a, ok)
  | a, ok, c :: t => if ok = true then (if s[a]? = some c then litS s (a + 1) true t else (a, false)) else (a, false)
theorem litS_le (s : List UInt8) : ∀ (t : List UInt8) (a : Nat) (ok : Bool), a ≤ s.length → (litS s a ok t).1 ≤ s.length
  | [], a, ok, h => h
  | c :: t, a, ok, h => by
    unfold litS
    split
    · split
      · rename_i h1
        obtain ⟨h2, _⟩ := List.getElem?_eq_some_iff.1 h1
        exact litS_le s t (a + 1) true h2
      · exact h
    · exact h
theorem litS_no (s : List UInt8) (a : Nat) (t : List UInt8) : litS s a false t = (a, false) := by
  cases t <;> rfl
section
variable (s : List UInt8) (hs : s.length ≤ 4194304)
include hs
theorem lit_p (t : List UInt8) (ht : t.length ≤ 100) (a : Nat) (ha : a ≤ s.length) (ok : Bool) : m_pass_pen_lit s (a : Int) ok t = some (s, ((litS s a ok t).1 : Int), (litS s a ok t).2) := by
  have key : ∀ (j i a : Nat), i + j = t.length → a ≤ s.length → whileO (m_pass_pen_lit_l0 s true t) ((a : Int), (i : Int)) = some (s, ((litS s a true (t.drop i)).1 : Int), (litS s a true (t.drop i)).2) := by
    intro j
    induction j with
    | zero =>
      intro i a hi ha
      rw [List.drop_eq_nil_of_le (by omega)]
      refine whileO_done ?_
      unfold m_pass_pen_lit_l0
      dsimp only
      rw [if_neg (ft2 (decide_eq_false (by omega)))]
      rfl
    | succ j ih =>
      intro i a hi ha
      have hit : i < t.length := by omega
      rw [List.drop_eq_getElem_cons hit]
      by_cases hlt : a < s.length
      · have e1 : geti s (a : Int) = some s[a] := geti_nat hlt
        have e2 : geti t (i : Int) = some t[i] := geti_nat hit
        have d1 : decide ((s.length : Int) ≤ (a : Int)) = false := decide_eq_false (by omega)
        by_cases hc : s[a] = t[i]
        · rw [whileO_next (s' := (((a + 1 : Nat) : Int), ((i + 1 : Nat) : Int))) (by
            unfold m_pass_pen_lit_l0
            dsimp only
            rw [if_pos (ft1 (decide_eq_true (by omega)) rfl), d1, gifNF, gifNF, e1, e2, Option.bind_some, Option.bind_some, if_neg (tf1 rfl (decide_eq_false (fun q => q hc))), wS a (by omega), wS i (by omega)])]
          rw [ih (i + 1) (a + 1) (by omega) (by omega)]
          conv => rhs; unfold litS
          rw [if_pos rfl, if_pos (by rw [List.getElem?_eq_getElem hlt, hc])]
        · rw [whileO_done (r := (s, (a : Int), false)) (by
            unfold m_pass_pen_lit_l0
            dsimp only
            rw [if_pos (ft1 (decide_eq_true (by omega)) rfl), d1, gifNF, gifNF, e1, e2, Option.bind_some, Option.bind_some, if_pos (tf3 (decide_eq_true hc))]
            rfl)]
          unfold litS
          rw [if_pos rfl, if_neg (by rw [List.getElem?_eq_getElem hlt]; exact fun q => hc (Option.some.inj q))]
      · have d1 : decide ((s.length : Int) ≤ (a : Int)) = true := decide_eq_true (by omega)
        rw [whileO_done (r := (s, (a : Int), false)) (by
          unfold m_pass_pen_lit_l0
          dsimp only
          rw [if_pos (ft1 (decide_eq_true (by omega)) rfl), d1, gifNT, gifNT, Option.bind_some, Option.bind_some, if_pos (tf2 rfl)]
          rfl)]
        unfold litS
        rw [if_pos rfl, if_neg (by rw [List.getElem?_eq_none (by omega)]; exact fun q => by cases q)]
  unfold m_pass_pen_lit
  cases ok with
  | true => exact key t.length 0 a (by omega) ha
  | false =>
    rw [litS_no]
    refine whileO_done ?_
    unfold m_pass_pen_lit_l0
    dsimp only
    rw [if_neg (ft3 rfl)]
    rfl
theorem lit_r (t : List UInt8) (ht : t.length ≤ 100) (a : Nat) (ha : a ≤ s.length) (ok : Bool) : m_r21_reading_word s (a : Int) (!ok) t = some (s, ((litS s a ok t).1 : Int), !(litS s a ok t).2) := by
  have key : ∀ (j i a : Nat), i + j = t.length → a ≤ s.length → whileO (m_r21_reading_word_l0 s false t) ((a : Int), (i : Int)) = some (s, ((litS s a true (t.drop i)).1 : Int), !(litS s a true (t.drop i)).2) := by
    intro j
    induction j with
    | zero =>
      intro i a hi ha
      rw [List.drop_eq_nil_of_le (by omega)]
      refine whileO_done ?_
      unfold m_r21_reading_word_l0
      dsimp only
      rw [if_neg (ft2 (decide_eq_false (by omega)))]
      rfl
    | succ j ih =>
      intro i a hi ha
      have hit : i < t.length := by omega
      rw [List.drop_eq_getElem_cons hit]
      by_cases hlt : a < s.length
      · have e1 : geti s (a : Int) = some s[a] := geti_nat hlt
        have e2 : geti t (i : Int) = some t[i] := geti_nat hit
        have d1 : decide ((s.length : Int) ≤ (a : Int)) = false := decide_eq_false (by omega)
        by_cases hc : s[a] = t[i]
        · rw [whileO_next (s' := (((a + 1 : Nat) : Int), ((i + 1 : Nat) : Int))) (by
            unfold m_r21_reading_word_l0
            dsimp only
            rw [if_pos (ft1 (b := !false) (decide_eq_true (by omega)) rfl), d1, gifNF, gifNF, e1, e2, Option.bind_some, Option.bind_some, if_neg (tf1 rfl (decide_eq_false (fun q => q hc))), wS a (by omega), wS i (by omega)])]
          rw [ih (i + 1) (a + 1) (by omega) (by omega)]
          conv => rhs; unfold litS
          rw [if_pos rfl, if_pos (by rw [List.getElem?_eq_getElem hlt, hc])]
        · rw [whileO_done (r := (s, (a : Int), true)) (by
            unfold m_r21_reading_word_l0
            dsimp only
            rw [if_pos (ft1 (b := !false) (decide_eq_true (by omega)) rfl), d1, gifNF, gifNF, e1, e2, Option.bind_some, Option.bind_some, if_pos (tf3 (decide_eq_true hc))]
            rfl)]
          unfold litS
          rw [if_pos rfl, if_neg (by rw [List.getElem?_eq_getElem hlt]; exact fun q => hc (Option.some.inj q))]
          rfl
      · have d1 : decide ((s.length : Int) ≤ (a : Int)) = true := decide_eq_true (by omega)
        rw [whileO_done (r := (s, (a : Int), true)) (by
          unfold m_r21_reading_word_l0
          dsimp only
          rw [if_pos (ft1 (b := !false) (decide_eq_true (by omega)) rfl), d1, gifNT, gifNT, Option.bind_some, Option.bind_some, if_pos (tf2 rfl)]
          rfl)]
        unfold litS
        rw [if_pos rfl, if_neg (by rw [List.getElem?_eq_none (by omega)]; exact fun q => by cases q)]
        rfl
  unfold m_r21_reading_word
  cases ok with
  | true => exact key t.length 0 a (by omega) ha
  | false =>
    rw [litS_no]
    refine whileO_done ?_
    unfold m_r21_reading_word_l0
    dsimp only
    rw [if_neg (ft3 (b := !(!false)) rfl)]
    rfl
end
/-- letters of Base64 -/
def isB (c : UInt8) : Bool := decide (lt c < 64)
def letS (s : List UInt8) (a : Nat) (ok : Bool) : List UInt8 := if ok = true then (s.drop a).takeWhile isB else []
theorem letS_le (s : List UInt8) (a : Nat) (ok : Bool) (ha : a ≤ s.length) : a + (letS s a ok).length ≤ s.length := by
  unfold letS
  split
  · have := (List.takeWhile_prefix (p := isB) (l := s.drop a)).length_le
    rw [List.length_drop] at this
    omega
  · simpa using ha
end Go.Sx
