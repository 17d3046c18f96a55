import Derived.Test.YtjddlmbpkkbkoaaGreatSyW
import Derived.Test.YtjddlmbpkkbkoaaGreatSyV
namespace Go.Sx
open Go.RowKit
set_option linter.unusedSimpArgs false
set_option linter.unusedVariables false
variable {α β γ δ : Type}
section
variable {F O F1 O1 : Nat → Prop} {w0 w w' : World} {hs rest : List HP} {E : Enc α} {A : Option Addr} {n c : Nat} {x : List α}
end
theorem FamG.len {H : Type} {m : DataW H → δ → Prop} {bulk : DataW H → Nat} {bulkAll : List (DataW H) → Nat} (h0 : ∀ d ds, bulkAll (d :: ds) = bulk d + bulkAll ds) (h1 : ∀ d, 1 ≤ bulk d) : ∀ (ds : List (DataW H)) (xs : List δ), FamG m ds xs → xs.length ≤ bulkAll ds
  | [], [], _ => Nat.zero_le _
  | [], _ :: _, h => h.elim
  | _ :: _, [], h => h.elim
  | d :: ds, x :: xs, ⟨_, hr⟩ => by
    have := FamG.len h0 h1 ds xs hr
    have := h1 d
    simp only [List.length_cons, h0]
    omega
end Go.Sx

