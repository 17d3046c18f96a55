import Derived.Test.YtfaaochjaajpjaaDoorT6
namespace Go.Sx
open Go.RowKit
set_option linter.unusedVariables false
set_option linter.unusedSimpArgs false
/-! ### a whole token -/
def whS (v : UInt64) : Int := if (9223372036854775807 : UInt64) < v then -1 else w64 (v.toNat : Int)
theorem wh_p (v : UInt64) : m_pass_whole v = some (whS v) := by
  unfold m_pass_whole whS
  split <;> rfl
theorem wh_r (v : UInt64) : m_r21_small v = some (whS v) := by
  unfold m_r21_small whS
  split <;> rfl
def finS (s : List UInt8) (k w1 w2 w3 : Int) (p4 : Nat) (t1 : List UInt8) (p5 : Nat) (t2 : List UInt8) (p6 : Nat) (ok : Bool) : Int × Int × Int × Int × Int × List UInt8 × List UInt8 × Int × Int :=
  if ((!ok) || (decide ((p6 : Int) < (s.length : Int)))) = true then (0, 0, 0, 0, 0, [], [], (p6 : Int), 4)
  else if (unb64 t1).2.2 ≠ 0 then (0, 0, 0, 0, 0, [], [], (p4 : Int), 4)
  else if (unb64 t2).2.2 ≠ 0 then (0, 0, 0, 0, 0, [], [], (p5 : Int), 4)
  else if chkS k w1 w2 w3 (((unb64 t2).1.length : Nat) : Int) (unb64 t1).1.length ≠ 0 then (0, 0, 0, 0, 0, [], [], 0, 1)
  else (k, w1, w2, w3, (((unb64 t2).1.length : Nat) : Int), (unb64 t1).1, (unb64 t2).1, 0, 0)
def midS (s : List UInt8) (k : Int) (a : Nat) (ok : Bool) : Int × Int × Int × Int × Int × List UInt8 × List UInt8 × Int × Int :=
  let x1 := litS s a ok [36, 118, 61, 49, 57, 36, 109, 61]
  let n1 := numT s x1.1 x1.2
  let x2 := litS s n1.2.1 n1.2.2 [44, 116, 61]
  let n2 := numT s x2.1 x2.2
  let x3 := litS s n2.2.1 n2.2.2 [44, 112, 61]
  let n3 := numT s x3.1 x3.2
  let x4 := litS s n3.2.1 n3.2.2 [36]
  let t1 := letS s x4.1 x4.2
  let x5 := litS s (x4.1 + t1.length) x4.2 [36]
  let t2 := letS s x5.1 x5.2
  finS s k (whS n1.1) (whS n2.1) (whS n3.1) x4.1 t1 x5.1 t2 (x5.1 + t2.length) x5.2
theorem litS_ok (s : List UInt8) (a : Nat) (t : List UInt8) (ok : Bool) (h : (litS s a ok t).2 = true) : ok = true := by
  cases ok with
  | true => rfl
  | false => rw [litS_no] at h; exact h
theorem numT_ok (s : List UInt8) (a : Nat) (ok : Bool) (h : (numT s a ok).2.2 = true) : ok = true := by
  cases ok with
  | true => rfl
  | false => exact h
def parseS (s : List UInt8) : Int × Int × Int × Int × Int × List UInt8 × List UInt8 × Int × Int :=
  midS s (kindS s (litS s 0 true [36, 97, 114, 103, 111, 110, 50]).1 (litS s 0 true [36, 97, 114, 103, 111, 110, 50]).2).1 (kindS s (litS s 0 true [36, 97, 114, 103, 111, 110, 50]).1 (litS s 0 true [36, 97, 114, 103, 111, 110, 50]).2).2.1 (kindS s (litS s 0 true [36, 97, 114, 103, 111, 110, 50]).1 (litS s 0 true [36, 97, 114, 103, 111, 110, 50]).2).2.2
section
variable (s : List UInt8) (hs : s.length ≤ 4194304)
include hs
theorem let_len (a : Nat) (ok : Bool) : (letS s a ok).length ≤ 4194304 := by
  unfold letS
  split
  · have := (List.takeWhile_prefix (p := isB) (l := s.drop a)).length_le
    rw [List.length_drop] at this
    omega
  · exact Nat.zero_le _
theorem mid_p (k : Int) (a : Nat) (ha : a ≤ s.length) (ok : Bool) : m_pass_Parse_j0 s s (a : Int) ok k = some (midS s k a ok) := by
  unfold m_pass_Parse_j0 midS
  dsimp only
  rw [lit_p s hs _ (by decide) a ha ok, Option.bind_some]
  have h1 := litS_le s [36, 118, 61, 49, 57, 36, 109, 61] a ok ha
  generalize litS s a ok [36, 118, 61, 49, 57, 36, 109, 61] = x1 at h1 ⊢
  dsimp only
  rw [num_p s hs x1.1 h1 x1.2, Option.bind_some]
  have h2 := numT_le s x1.1 x1.2 h1
  generalize numT s x1.1 x1.2 = n1 at h2 ⊢
  dsimp only
  rw [wh_p, Option.bind_some, lit_p s hs _ (by decide) n1.2.1 h2 n1.2.2, Option.bind_some]
  have h3 := litS_le s [44, 116, 61] n1.2.1 n1.2.2 h2
  generalize litS s n1.2.1 n1.2.2 [44, 116, 61] = x2 at h3 ⊢
  dsimp only
  rw [num_p s hs x2.1 h3 x2.2, Option.bind_some]
  have h4 := numT_le s x2.1 x2.2 h3
  generalize numT s x2.1 x2.2 = n2 at h4 ⊢
  dsimp only
  rw [wh_p, Option.bind_some, lit_p s hs _ (by decide) n2.2.1 h4 n2.2.2, Option.bind_some]
  have h5 := litS_le s [44, 112, 61] n2.2.1 n2.2.2 h4
  generalize litS s n2.2.1 n2.2.2 [44, 112, 61] = x3 at h5 ⊢
  dsimp only
  rw [num_p s hs x3.1 h5 x3.2, Option.bind_some]
  have h6 := numT_le s x3.1 x3.2 h5
  generalize numT s x3.1 x3.2 = n3 at h6 ⊢
  dsimp only
  rw [wh_p, Option.bind_some, lit_p s hs _ (by decide) n3.2.1 h6 n3.2.2, Option.bind_some]
  have h7 := litS_le s [36] n3.2.1 n3.2.2 h6
  generalize litS s n3.2.1 n3.2.2 [36] = x4 at h7 ⊢
  dsimp only
  rw [let_p s hs x4.1 h7 x4.2, Option.bind_some]
  have h8 := letS_le s x4.1 x4.2 h7
  have l1 := let_len s hs x4.1 x4.2
  generalize letS s x4.1 x4.2 = t1 at h8 l1 ⊢
  dsimp only
  rw [lit_p s hs _ (by decide) (x4.1 + t1.length) h8 x4.2, Option.bind_some]
  have h9 := litS_le s [36] (x4.1 + t1.length) x4.2 h8
  generalize litS s (x4.1 + t1.length) x4.2 [36] = x5 at h9 ⊢
  dsimp only
  rw [let_p s hs x5.1 h9 x5.2, Option.bind_some]
  have h10 := letS_le s x5.1 x5.2 h9
  have l2 := let_len s hs x5.1 x5.2
  generalize letS s x5.1 x5.2 = t2 at h10 l2 ⊢
  dsimp only
  unfold finS
  split
  · rfl
  · rw [wunb64 t1 l1, Option.bind_some]
    split
    · rfl
    · rw [wunb64 t2 l2, Option.bind_some]
      split
      · rfl
      · rw [pcheck, Option.bind_some]
        by_cases hc : chkS k (whS n1.1) (whS n2.1) (whS n3.1) (((unb64 t2).1.length : Nat) : Int) (unb64 t1).1.length ≠ 0
        · rw [if_pos hc, if_pos hc, if_pos hc]
        · have e0 : (if chkS k (whS n1.1) (whS n2.1) (whS n3.1) (((unb64 t2).1.length : Nat) : Int) (unb64 t1).1.length ≠ 0 then chkS k (whS n1.1) (whS n2.1) (whS n3.1) (((unb64 t2).1.length : Nat) : Int) (unb64 t1).1.length else if (((unb64 t2).1.length : Nat) : Int) ≠ (((unb64 t2).1.length : Nat) : Int) then (1 : Int) else 0) = 0 := by
            rw [if_neg hc, if_neg (fun q => q rfl)]
          rw [e0, if_neg (fun q => q rfl), if_neg hc]
theorem parse_p : m_pass_Parse s = some (parseS s) := by
  rw [parse_k s hs, mid_p s hs _ _ (kindS_le s _ _ (litS_le s _ 0 true (by omega)))]
  rfl
theorem parse_r : m_r21_Parse s = some (parseS s) := by
  have h0 : m_r21_reading_word s (0 : Int) false ([36, 97, 114, 103, 111, 110, 50] : List UInt8) = some (s, ((litS s 0 true [36, 97, 114, 103, 111, 110, 50]).1 : Int), !(litS s 0 true [36, 97, 114, 103, 111, 110, 50]).2) := lit_r s hs ([36, 97, 114, 103, 111, 110, 50] : List UInt8) (by decide) 0 (by omega) true
  have hle := litS_le s [36, 97, 114, 103, 111, 110, 50] 0 true (by omega)
  unfold m_r21_Parse parseS
  rw [h0, Option.bind_some]
  generalize litS s 0 true [36, 97, 114, 103, 111, 110, 50] = x0 at hle ⊢
  dsimp only
  obtain ⟨k', hk, hkk⟩ := kind_r s hs x0.1 hle x0.2
  rw [hk, Option.bind_some]
  have hkl := kindS_le s x0.1 x0.2 hle
  generalize kindS s x0.1 x0.2 = kx at hkl hkk ⊢
  dsimp only
  unfold midS
  dsimp only
  rw [lit_r s hs _ (by decide) kx.2.1 hkl kx.2.2, Option.bind_some]
  have h1 := litS_le s [36, 118, 61, 49, 57, 36, 109, 61] kx.2.1 kx.2.2 hkl
  have o1 := litS_ok s kx.2.1 [36, 118, 61, 49, 57, 36, 109, 61] kx.2.2
  generalize litS s kx.2.1 kx.2.2 [36, 118, 61, 49, 57, 36, 109, 61] = x1 at h1 o1 ⊢
  dsimp only
  rw [num_r s hs x1.1 h1 x1.2, Option.bind_some]
  have h2 := numT_le s x1.1 x1.2 h1
  have o2 := numT_ok s x1.1 x1.2
  generalize numT s x1.1 x1.2 = n1 at h2 o2 ⊢
  dsimp only
  rw [lit_r s hs _ (by decide) n1.2.1 h2 n1.2.2, Option.bind_some]
  have h3 := litS_le s [44, 116, 61] n1.2.1 n1.2.2 h2
  have o3 := litS_ok s n1.2.1 [44, 116, 61] n1.2.2
  generalize litS s n1.2.1 n1.2.2 [44, 116, 61] = x2 at h3 o3 ⊢
  dsimp only
  rw [num_r s hs x2.1 h3 x2.2, Option.bind_some]
  have h4 := numT_le s x2.1 x2.2 h3
  have o4 := numT_ok s x2.1 x2.2
  generalize numT s x2.1 x2.2 = n2 at h4 o4 ⊢
  dsimp only
  rw [lit_r s hs _ (by decide) n2.2.1 h4 n2.2.2, Option.bind_some]
  have h5 := litS_le s [44, 112, 61] n2.2.1 n2.2.2 h4
  have o5 := litS_ok s n2.2.1 [44, 112, 61] n2.2.2
  generalize litS s n2.2.1 n2.2.2 [44, 112, 61] = x3 at h5 o5 ⊢
  dsimp only
  rw [num_r s hs x3.1 h5 x3.2, Option.bind_some]
  have h6 := numT_le s x3.1 x3.2 h5
  have o6 := numT_ok s x3.1 x3.2
  generalize numT s x3.1 x3.2 = n3 at h6 o6 ⊢
  dsimp only
  rw [lit_r s hs _ (by decide) n3.2.1 h6 n3.2.2, Option.bind_some]
  have h7 := litS_le s [36] n3.2.1 n3.2.2 h6
  have o7 := litS_ok s n3.2.1 [36] n3.2.2
  generalize litS s n3.2.1 n3.2.2 [36] = x4 at h7 o7 ⊢
  dsimp only
  rw [let_r s hs x4.1 h7 x4.2, Option.bind_some]
  have h8 := letS_le s x4.1 x4.2 h7
  have l1 := let_len s hs x4.1 x4.2
  generalize letS s x4.1 x4.2 = t1 at h8 l1 ⊢
  dsimp only
  rw [lit_r s hs _ (by decide) (x4.1 + t1.length) h8 x4.2, Option.bind_some]
  have h9 := litS_le s [36] (x4.1 + t1.length) x4.2 h8
  have o8 := litS_ok s (x4.1 + t1.length) [36] x4.2
  generalize litS s (x4.1 + t1.length) x4.2 [36] = x5 at h9 o8 ⊢
  dsimp only
  rw [let_r s hs x5.1 h9 x5.2, Option.bind_some]
  have h10 := letS_le s x5.1 x5.2 h9
  have l2 := let_len s hs x5.1 x5.2
  generalize letS s x5.1 x5.2 = t2 at h10 l2 ⊢
  dsimp only
  unfold finS
  by_cases hbad : ((!x5.2) || (decide (((x5.1 + t2.length : Nat) : Int) < (s.length : Int)))) = true
  · rw [if_pos hbad, if_pos hbad]
  · rw [if_neg hbad, if_neg hbad]
    have hok : x5.2 = true := by
      cases h : x5.2 with
      | true => rfl
      | false => exact absurd (by rw [h]; rfl) hbad
    have hkk' := hkk (o1 (o2 (o3 (o4 (o5 (o6 (o7 (o8 hok))))))))
    rw [hkk', runb64 t1 l1, Option.bind_some]
    split
    · rfl
    · rw [runb64 t2 l2, Option.bind_some]
      split
      · rfl
      · rw [wh_r, Option.bind_some, wh_r, Option.bind_some, wh_r, Option.bind_some, rcheck, Option.bind_some]
        split <;> rfl
end
theorem parse_len (s : List UInt8) : (parseS s).2.2.2.2.2.1.length ≤ s.length ∧ (parseS s).2.2.2.2.2.2.1.length ≤ s.length := by
  have hl : ∀ a ok, (letS s a ok).length ≤ s.length := by
    intro a ok
    unfold letS
    split
    · have := (List.takeWhile_prefix (p := isB) (l := s.drop a)).length_le
      rw [List.length_drop] at this
      omega
    · exact Nat.zero_le _
  unfold parseS midS
  dsimp only
  unfold finS
  split
  · exact ⟨Nat.zero_le _, Nat.zero_le _⟩
  · split
    · exact ⟨Nat.zero_le _, Nat.zero_le _⟩
    · split
      · exact ⟨Nat.zero_le _, Nat.zero_le _⟩
      · split
        · exact ⟨Nat.zero_le _, Nat.zero_le _⟩
        · exact ⟨Nat.le_trans (unb64_le _) (hl _ _), Nat.le_trans (unb64_le _) (hl _ _)⟩
theorem awake_ok : m_l21_awake = some true := by
  unfold m_l21_awake
  rw [parse_p _ (by decide), Option.bind_some]
  have : (parseS [36, 97, 114, 103, 111, 110, 50, 105, 100, 36, 118, 61, 49, 56]).2.2.2.2.2.2.2 = (13, 4) := by decide +kernel
  rw [show (parseS [36, 97, 114, 103, 111, 110, 50, 105, 100, 36, 118, 61, 49, 56]).2.2.2.2.2.2.2.1 = 13 from by rw [this], show (parseS [36, 97, 114, 103, 111, 110, 50, 105, 100, 36, 118, 61, 49, 56]).2.2.2.2.2.2.2.2 = 4 from by rw [this]]
  rfl
theorem alike_refl (a b c d e : Int) (x y : List UInt8) (hx : x.length ≤ 4194304) (hy : y.length ≤ 4194304) : m_l21_alike a b c d e x y a b c d e x y = some true := by
  unfold m_l21_alike m_l21_same
  rw [if_pos (by simp), rsame x x hx, Option.bind_some, Option.bind_some, decide_eq_true rfl, if_pos rfl, rsame y y hy, Option.bind_some, Option.bind_some, decide_eq_true rfl]
theorem p_l21_PassTexts (K M P L T : Int) (salt sum s : List UInt8) (hs : s.length ≤ 1048576) : m_l21_PassTexts K M P L T salt sum s = some true := by
  have hl := parse_len s
  unfold m_l21_PassTexts
  rw [print_p, Option.bind_some, print_r, Option.bind_some, parse_p s (by omega), Option.bind_some, parse_r s (by omega), Option.bind_some, if_pos (by simp), alike_refl _ _ _ _ _ _ _ (by omega) (by omega), Option.bind_some, if_pos (by simp), awake_ok, Option.bind_some]
end Go.Sx
