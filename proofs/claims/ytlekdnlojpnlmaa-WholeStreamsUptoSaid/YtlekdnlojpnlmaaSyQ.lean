import Derived.Test.YtlekdnlojpnlmaaSyO
namespace Go.Sx
open Go.RowKit
set_option linter.unusedSimpArgs false
set_option linter.unusedVariables false
variable {α β : Type}

/-! ### rows of rows: each row within is one's own -/
/-- a slice's header -/
abbrev Hd := Option Addr × Nat × Nat
def eH : Enc Hd := ⟨1, fun h => [.slice h.1 h.2.1 h.2.2], fun _ => rfl, fun x v h => by rw [List.mem_singleton.1 h]; rfl⟩
instance : Pos eH := ⟨by decide⟩
def rows (E : Enc α) : List Hd → List (List α) → List HP
  | h :: hs, x :: xs => Ow E h.1 h.2.1 h.2.2 x :: rows E hs xs
  | _, _ => []
section
variable {F O : Nat → Prop} {w0 w w' : World} {hs rest : List HP}
theorem Ow.lec' {E : Enc α} {A : Option Addr} {n c : Nat} {xs : List α} {S R : Nat → Prop} (h : (Ow E A n c xs).p w S R) : n ≤ c := by
  rcases h.2 with ⟨_, h1, h2⟩ | ⟨g, t, cur, _, _, h3, _⟩ <;> omega
end

/-! ### rows of rows that are read only -/
section
variable {F O F1 O1 : Nat → Prop} {w0 w w' : World} {hs rest : List HP} {E : Enc α} {A : Option Addr} {hd : List Hd} {xss : List (List α)}
end

section
variable {P : Program} {n : Nat} {ops : Array Oper} {L : St} {w w0 : World} {F O : Nat → Prop} {hs rest : List HP} {K : St → World → Prop}
end

/-! ### regions that draw: splits, and operations that are off -/
section
variable {P : Program} {n : Nat} {Q : Act → World → Prop} {ops : Array Oper} {Ls : List Nat} {C : List (World → Prop)} {L L' : St} {w : World} {π : MT} {p : Nat}
end

/-! ### a slice that is nil holds nothing -/
end Go.Sx

