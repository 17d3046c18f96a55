import Derived.Test.YtfaaochjaajpjaaDoorT2
namespace Go.Sx
open Go.RowKit
set_option linter.unusedVariables false
set_option linter.unusedSimpArgs false
theorem slcN (s : List UInt8) (a b : Nat) (h1 : a ≤ b) (h2 : b ≤ s.length) : slc s (a : Int) (b : Int) = some ((s.take b).drop a) := slc_ok ⟨by omega, by omega, by omega⟩
theorem isB_chk : ∀ c : UInt8, isB c = ((((decide (0 ≤ idxB ([43, 47] : List UInt8) c)) || ((decide ((48 : UInt8) ≤ c)) && (decide (c ≤ 57)))) || ((decide ((65 : UInt8) ≤ c)) && (decide (c ≤ 90)))) || ((decide ((97 : UInt8) ≤ c)) && (decide (c ≤ 122)))) := by
  intro c
  refine of_bytes (p := fun c => isB c = ((((decide (0 ≤ idxB ([43, 47] : List UInt8) c)) || ((decide ((48 : UInt8) ≤ c)) && (decide (c ≤ 57)))) || ((decide ((65 : UInt8) ≤ c)) && (decide (c ≤ 90)))) || ((decide ((97 : UInt8) ≤ c)) && (decide (c ≤ 122))))) ?_ c
  decide +kernel
section
variable (s : List UInt8) (hs : s.length ≤ 4194304)
include hs
theorem let_step (a p : Nat) (hp : p < s.length) : m_pass_pen_letters_l0 s (a : Int) true (p : Int) = if isB s[p] = true then some (.inl ((p + 1 : Nat) : Int)) else Option.map Sum.inr ((slc s (a : Int) (p : Int)).bind fun t => some (t, (a : Int), s, (p : Int), true)) := by
  unfold m_pass_pen_letters_l0
  dsimp only
  rw [if_pos (ft1 rfl (decide_eq_true (by omega))), geti_nat hp, Option.bind_some, show m_strings_IndexByte ([43, 47] : List UInt8) s[p] = some (idxB [43, 47] s[p]) from rfl, Option.bind_some, wS p (by omega), isB_chk]
  generalize s[p] = c
  cases h1 : decide (0 ≤ idxB ([43, 47] : List UInt8) c) with
  | true => rfl
  | false =>
    rw [gifNF, Option.bind_some, gifNF]
    cases h2 : decide ((48 : UInt8) ≤ c) with
    | false =>
      rw [show (gif false (some c)) = some default from rfl, Option.bind_some]
      rw [show (!(false || (false && decide ((default : UInt8) ≤ 57)))) = true from rfl, show (gif true (some c)) = some c from rfl, Option.bind_some]
      cases h4 : decide ((65 : UInt8) ≤ c) with
      | false =>
        rw [show gif true (gif false (some c)) = some default from rfl, Option.bind_some]
        rw [show (!((false || (false && decide ((default : UInt8) ≤ 57))) || (false && decide ((default : UInt8) ≤ 90)))) = true from rfl, show (gif true (some c)) = some c from rfl, Option.bind_some]
        cases h6 : decide ((97 : UInt8) ≤ c) with
        | false => rfl
        | true =>
          rw [show gif true (gif true (some c)) = some c from rfl, Option.bind_some]
          rfl
      | true =>
        rw [show gif true (gif true (some c)) = some c from rfl, Option.bind_some]
        cases h5 : decide (c ≤ 90) with
        | true => rfl
        | false =>
          rw [show (!((false || (false && decide ((default : UInt8) ≤ 57))) || (true && false))) = true from rfl, show (gif true (some c)) = some c from rfl, Option.bind_some]
          cases h6 : decide ((97 : UInt8) ≤ c) with
          | false => rfl
          | true =>
            rw [show gif true (gif true (some c)) = some c from rfl, Option.bind_some]
            rfl
    | true =>
      rw [show (gif true (some c)) = some c from rfl, Option.bind_some]
      cases h3 : decide (c ≤ 57) with
      | true => rfl
      | false =>
        rw [show (!(false || (true && false))) = true from rfl, show (gif true (some c)) = some c from rfl, Option.bind_some]
        cases h4 : decide ((65 : UInt8) ≤ c) with
        | false =>
          rw [show gif true (gif false (some c)) = some default from rfl, Option.bind_some]
          rw [show (!((false || (true && false)) || (false && decide ((default : UInt8) ≤ 90)))) = true from rfl, show (gif true (some c)) = some c from rfl, Option.bind_some]
          cases h6 : decide ((97 : UInt8) ≤ c) with
          | false => rfl
          | true =>
            rw [show gif true (gif true (some c)) = some c from rfl, Option.bind_some]
            rfl
        | true =>
          rw [show gif true (gif true (some c)) = some c from rfl, Option.bind_some]
          cases h5 : decide (c ≤ 90) with
          | true => rfl
          | false =>
            rw [show (!((false || (true && false)) || (true && false))) = true from rfl, show (gif true (some c)) = some c from rfl, Option.bind_some]
            cases h6 : decide ((97 : UInt8) ≤ c) with
            | false => rfl
            | true =>
              rw [show gif true (gif true (some c)) = some c from rfl, Option.bind_some]
omit hs in
theorem tkw (a : Nat) (h : a ≤ s.length) : ((s.take (a + ((s.drop a).takeWhile isB).length)).drop a) = (s.drop a).takeWhile isB := by
  rw [List.drop_take]
  have h1 := (List.takeWhile_prefix (p := isB) (l := s.drop a))
  have : a + ((s.drop a).takeWhile isB).length - a = ((s.drop a).takeWhile isB).length := by omega
  rw [this]
  exact (List.prefix_iff_eq_take.1 h1).symm
theorem let_p (a : Nat) (ha : a ≤ s.length) (ok : Bool) : m_pass_pen_letters s (a : Int) ok = some (letS s a ok, (a : Int), s, ((a + (letS s a ok).length : Nat) : Int), ok) := by
  unfold m_pass_pen_letters letS
  cases ok with
  | true =>
    rw [if_pos rfl]
    have key : ∀ (j p : Nat), p + j = s.length → a ≤ p → whileO (m_pass_pen_letters_l0 s (a : Int) true) (p : Int) = some (((s.take (p + ((s.drop p).takeWhile isB).length)).drop a), (a : Int), s, ((p + ((s.drop p).takeWhile isB).length : Nat) : Int), true) := by
      intro j
      induction j with
      | zero =>
        intro p hp hap
        obtain rfl : p = s.length := by omega
        rw [List.drop_length]
        refine whileO_done ?_
        unfold m_pass_pen_letters_l0
        dsimp only
        rw [if_neg (ft3 (decide_eq_false (by omega))), slcN s a s.length ha (by omega)]
        rfl
      | succ j ih =>
        intro p hp hap
        have hp' : p < s.length := by omega
        rw [List.drop_eq_getElem_cons hp']
        cases hb : isB s[p] with
        | true =>
          rw [whileO_next (by rw [let_step s hs a p hp', hb]; rfl), ih (p + 1) (by omega) (by omega), List.takeWhile_cons, if_pos hb, List.length_cons, show p + 1 + ((s.drop (p + 1)).takeWhile isB).length = p + (((s.drop (p + 1)).takeWhile isB).length + 1) from by omega]
        | false =>
          rw [List.takeWhile_cons, if_neg (by rw [hb]; decide)]
          refine whileO_done ?_
          rw [let_step s hs a p hp', hb, if_neg (by decide), slcN s a p hap (by omega)]
          rfl
    rw [key (s.length - a) a (by omega) (Nat.le_refl _), tkw s a ha]
  | false =>
    rw [if_neg (by decide)]
    refine whileO_done ?_
    unfold m_pass_pen_letters_l0
    dsimp only
    rw [if_neg (ft2 rfl), slcN s a a (Nat.le_refl _) ha]
    simp
theorem let_r (a : Nat) (ha : a ≤ s.length) (ok : Bool) : m_r21_reading_letters s (a : Int) (!ok) = some (letS s a ok, s, ((a + (letS s a ok).length : Nat) : Int), !ok) := by
  unfold m_r21_reading_letters letS
  cases ok with
  | true =>
    rw [if_pos rfl]
    have key : ∀ (j p : Nat), p + j = s.length → a ≤ p → whileO (m_r21_reading_letters_l0 s (a : Int) (!true)) (p : Int) = some (((s.take (p + ((s.drop p).takeWhile isB).length)).drop a), s, ((p + ((s.drop p).takeWhile isB).length : Nat) : Int), !true) := by
      intro j
      induction j with
      | zero =>
        intro p hp hap
        obtain rfl : p = s.length := by omega
        rw [List.drop_length]
        refine whileO_done ?_
        unfold m_r21_reading_letters_l0
        dsimp only
        rw [if_neg (ft3 (decide_eq_false (by omega))), slcN s a s.length ha (by omega)]
        rfl
      | succ j ih =>
        intro p hp hap
        have hp' : p < s.length := by omega
        rw [List.drop_eq_getElem_cons hp']
        by_cases hb : lt s[p] < 64
        · have hB : isB s[p] = true := decide_eq_true hb
          rw [whileO_next (s' := ((p + 1 : Nat) : Int)) (by
            unfold m_r21_reading_letters_l0
            dsimp only
            rw [if_pos (ft1 (a := !(!true)) rfl (decide_eq_true (by omega))), geti_nat hp', Option.bind_some, rletter, if_pos hb, Option.bind_some, if_pos (by omega), wS p (by omega)])]
          rw [ih (p + 1) (by omega) (by omega), List.takeWhile_cons, if_pos hB, List.length_cons, show p + 1 + ((s.drop (p + 1)).takeWhile isB).length = p + (((s.drop (p + 1)).takeWhile isB).length + 1) from by omega]
        · have hB : isB s[p] = false := decide_eq_false hb
          rw [List.takeWhile_cons, if_neg (by rw [hB]; decide)]
          refine whileO_done ?_
          unfold m_r21_reading_letters_l0
          dsimp only
          rw [if_pos (ft1 (a := !(!true)) rfl (decide_eq_true (by omega))), geti_nat hp', Option.bind_some, rletter, if_neg hb, Option.bind_some, if_neg (by decide), slcN s a p hap (by omega)]
          rfl
    rw [key (s.length - a) a (by omega) (Nat.le_refl _), tkw s a ha]
  | false =>
    rw [if_neg (by decide)]
    refine whileO_done ?_
    unfold m_r21_reading_letters_l0
    dsimp only
    rw [if_neg (ft2 (a := !(!false)) rfl), slcN s a a (Nat.le_refl _) ha]
    simp
end
end Go.Sx
