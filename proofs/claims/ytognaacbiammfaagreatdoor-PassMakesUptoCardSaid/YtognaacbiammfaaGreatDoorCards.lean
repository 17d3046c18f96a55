/-
  DERIVED. GIVEN WITH THE SEED: THE CARDS: each row of YtognaacbiammfaaGreatDoorRows.lean that lists a variable, with what it lists TIED to the program's text (the seventh form; the later family's looks); each row that meets fmt, with fmt's text TOLD by the authors' own Lean function (tested against real Go, not proved from fmt's source: count such statements apart). THE CARD IS WHAT COUNTS. Prove the row's statement (the work); the ties are given (YtognaacbiammfaaGreatDoorTie.lean); close each card by the builder's one call (the guide's Derived/Test/ToyasCard.lean, 'card_holds'). Laid BY PROGRAM, IN A SANDBOX (cutbox-door.mjs). By AI agents, Wed Nov 11 2026. No macro, syntax, notation, axiom, sorry.
-/
import Derived.Test.YtognaacbiammfaaGreatDoorRows
import GoSem.ClaimSeven
namespace Go.Proofs.YtognaacbiammfaaGreatDoor
namespace Rows

/-- THE TIED CARD OF 'quernlaw21.PassMakes'. -/
def passMakesCard : Claim7 := { stood := { row := passMakesRow, standIns := [], harness := (true, "032c5efb97b003a78bd5dadf4d71eb175607c1c95652f1b33344b6cff7d53550"), looks := false }, kinds := [], alts := [], laidByText := true, laidKinds := [.data, .data, .data], laidTests := true, laidLooks := .later }
def PassMakesCardSaid : Prop := Claim7.holds Tryz.pinned (.plain (OpenSpec.ofChange passMakesSpec)) passMakesCard

/-- THE TIED CARD OF 'quernlaw21.PassVerifies'. -/
def passVerifiesCard : Claim7 := { stood := { row := passVerifiesRow, standIns := [], harness := (true, "032c5efb97b003a78bd5dadf4d71eb175607c1c95652f1b33344b6cff7d53550"), looks := false }, kinds := [], alts := [], laidByText := true, laidKinds := [.data, .data, .data], laidTests := true, laidLooks := .later }
def PassVerifiesCardSaid : Prop := Claim7.holds Tryz.pinned (.plain (OpenSpec.ofChange passVerifiesSpec)) passVerifiesCard

/-- THE SECOND FORM's CARD OF 'quernlaw21.PassMakes'. -/
def passMakesUptoCard : Claim7 := { stood := { row := passMakesUptoRow, standIns := [], harness := (true, "032c5efb97b003a78bd5dadf4d71eb175607c1c95652f1b33344b6cff7d53550"), looks := false }, kinds := [], alts := [], laidByText := true, laidKinds := [.data, .data, .data], laidTests := true, laidLooks := .later }
def PassMakesUptoCardSaid : Prop := Claim7.holds Tryz.pinned (.plain (OpenSpec.upto passMakesSpec)) passMakesUptoCard

/-- THE SECOND FORM's CARD OF 'quernlaw21.PassVerifies'. -/
def passVerifiesUptoCard : Claim7 := { stood := { row := passVerifiesUptoRow, standIns := [], harness := (true, "032c5efb97b003a78bd5dadf4d71eb175607c1c95652f1b33344b6cff7d53550"), looks := false }, kinds := [], alts := [], laidByText := true, laidKinds := [.data, .data, .data], laidTests := true, laidLooks := .later }
def PassVerifiesUptoCardSaid : Prop := Claim7.holds Tryz.pinned (.plain (OpenSpec.upto passVerifiesSpec)) passVerifiesUptoCard
end Rows
end Go.Proofs.YtognaacbiammfaaGreatDoor
