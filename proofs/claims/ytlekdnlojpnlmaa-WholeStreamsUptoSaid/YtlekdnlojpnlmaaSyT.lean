import Derived.Test.YtlekdnlojpnlmaaSyS
namespace Go.Sx
open Go.RowKit
set_option linter.unusedSimpArgs false
set_option linter.unusedVariables false
variable {α β γ δ : Type}

/-! ### slices of structs that hold slices, read only: the cells (with the slices' headers) and what they stand for -/
section
variable {F O F1 O1 : Nat → Prop} {w0 w w' : World} {hs : List HP}
end

/-! ### maps whose values are rows of one's own -/
def hV (h : Hd) : Value := .slice h.1 h.2.1 h.2.2
section
variable {F O : Nat → Prop} {w0 w : World} {hs rest : List HP} {E : Enc α} {b : Nat} {ks : List (List UInt8)} {hd : List Hd} {xss : List (List α)}
end
section
variable {P : Program} {n : Nat} {ops : Array Oper} {L : St} {w w0 : World} {F O : Nat → Prop} {hs rest : List HP} {K : St → World → Prop} {E : Enc α}
end
end Go.Sx

