import Derived.Test.YtlekdnlojpnlmaaSyT
import Derived.Maps.RangeRun
import Derived.Sort.OwnSorted
import Derived.Sort.KeysCollected
import Derived.Shelf.Sort.Plain
import Derived.Shelf.Slices.In.SortNone
namespace Go.Sx
open Go.RowKit Go.MapKept
set_option linter.unusedSimpArgs false
set_option linter.unusedVariables false
variable {α : Type}

/-! ### a map that is gone over -/
section
variable {P : Program} {n : Nat} {ops : Array Oper} {L : St} {w w0 : World} {F O : Nat → Prop} {hs rest : List HP} {K : St → World → Prop}
/-! ### the same of maps of rows -/
variable {E : Enc α} {b r : Nat} {ks left : List (List UInt8)} {hd : List Hd} {xss : List (List α)}
end

/-! ### a loop that ends because something grows less -/
section
variable {P : Program} {n : Nat} {Q : Exit → Act → World → Prop} {L L' : St} {w : World}
end

/-! ### the library's sort of texts -/
end Go.Sx

