import Derived.Test.YtjddlmbpkkbkoaaGreatQ23
namespace Go.Sx
open Go.RowKit
set_option linter.unusedVariables false
set_option linter.unusedSimpArgs false
abbrev wtOp (z_ : Int × List UInt8 × List UInt8 × List UInt8) : Nat := max z_.2.1.length (max z_.2.2.1.length (z_.2.2.2.length))
theorem tot_take {δ : Type} (wt : δ → Nat) : ∀ (xs : List δ) (i : Nat) (h : i < xs.length), TotG wt (xs.take (i + 1)) = TotG wt (xs.take i) + wt xs[i]
  | x :: xs, 0, _ => by simp [TotG]
  | x :: xs, i + 1, h => by
    have := tot_take wt xs i (by simpa using h)
    simp only [List.take_succ_cons, TotG, List.getElem_cons_succ]
    omega
theorem tot_take_le {δ : Type} (wt : δ → Nat) : ∀ (xs : List δ) (i : Nat), TotG wt (xs.take i) ≤ TotG wt xs
  | [], i => by simp [TotG]
  | x :: xs, 0 => by simp [TotG]
  | x :: xs, i + 1 => by
    have := tot_take_le wt xs i
    simp only [List.take_succ_cons, TotG]
    omega
theorem tot_ge {δ : Type} (wt : δ → Nat) (xs : List δ) (i : Nat) (h : i < xs.length) : wt xs[i] ≤ TotG wt xs := by
  have h1 := tot_take wt xs i h
  have h2 := tot_take_le wt xs (i + 1)
  omega
end Go.Sx

