import Derived.Test.YtjddlmbpkkbkoaaGreatSyQ
import Derived.Test.YtjddlmbpkkbkoaaGreatSyP
namespace Go.Sx
open Go.RowKit Go.ChangeShapes Go.WideShapes Go.ChangeAt
set_option linter.unusedSimpArgs false
set_option linter.unusedVariables false

section
variable {P : Program} {n : Nat} {ops : Array Oper} {L : St} {w : World} {K : St → World → Prop}
end

section
variable {α : Type} {F O : Nat → Prop} {w0 w : World} {hs : List HP}
end
section
variable {α : Type} {F O : Nat → Prop} {w0 w : World} {hs rest : List HP} {E : Enc α} {A : Option Addr} {n c m : Nat} {hd : List Hd} {xss : List (List α)}
end
section
variable {P : Program} {n : Nat} {ops : Array Oper} {L : St} {w w0 : World} {F O : Nat → Prop} {hs : List HP} {K : St → World → Prop}
end

section
variable {P : Program} {n : Nat} {Q : Exit → Act → World → Prop} {L L' : St} {w : World} {c : Code}
end
section
variable {P : Program} {n : Nat} {ops : Array Oper} {L : St} {w : World} {K : St → World → Prop}
end
section
variable {P : Program} {n : Nat} {ops : Array Oper} {L : St} {w : World} {K : St → World → Prop}
end
def eQ : Enc (Option Addr) := ⟨1, fun a => [.pointer a], fun _ => rfl, fun x v h => by rw [List.mem_singleton.1 h]; rfl⟩
instance : Pos eQ := ⟨by decide⟩

theorem exlist {β : Type} {Q : Nat → β → Prop} : ∀ (n : Nat), (∀ i, i < n → ∃ y, Q i y) → ∃ l : List β, l.length = n ∧ ∀ (i : Nat) (y : β), l[i]? = some y → Q i y
  | 0, _ => ⟨[], rfl, fun i y h => by cases h⟩
  | n + 1, h => by
    obtain ⟨l, hl, hQ⟩ := exlist n fun i hi => h i (by omega)
    obtain ⟨y, hy⟩ := h n (by omega)
    refine ⟨l ++ [y], by simp [hl], fun i z hz => ?_⟩
    rw [List.getElem?_append] at hz
    split at hz
    · exact hQ i z hz
    · have hi : i = n := by
        have := (List.getElem?_eq_some_iff.1 hz).1
        simp at this
        omega
      subst hi
      rw [hl] at hz
      simp at hz
      subst hz
      exact hy
def Tot : List (List UInt8) → Nat
  | [] => 0
  | x :: xs => x.length + 1 + Tot xs
section
variable {H : Type} {enc : TypeId × Value → H} {P : Program} {w : World} {held : Bool}
def Fam : List (DataW H) → List (List UInt8) → Prop
  | [], [] => True
  | d :: ds, x :: xs => (x = [] ∨ ∃ zs : List Int, d = .slice (lits .u8 (zs.take x.length)) (lits .u8 (zs.drop x.length)) ∧ x.length ≤ zs.length) ∧ Fam ds xs
  | _, _ => False
end
section
variable {ops : Array Oper} {Ls : List Nat}
end
end Go.Sx

