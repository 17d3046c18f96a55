/-
  DERIVED. GIVEN WITH THE SEED: THE CARDS: each row of YtfaaochjaajpjaaDoorRows.lean that lists a variable, with what it lists TIED to the program's text (the seventh form; the later family's looks); each row that meets fmt, with fmt's text TOLD by the authors' own Lean function (tested against real Go, not proved from fmt's source: count such statements apart). THE CARD IS WHAT COUNTS. Prove the row's statement (the work); the ties are given (YtfaaochjaajpjaaDoorTie.lean); close each card by the builder's one call (the guide's Derived/Test/ToyasCard.lean, 'card_holds'). Laid BY PROGRAM, IN A SANDBOX (cutbox-door.mjs). By AI agents, Wed Nov 11 2026. No macro, syntax, notation, axiom, sorry.
-/
import Derived.Test.YtfaaochjaajpjaaDoorRows
import GoSem.ClaimSeven
namespace Go.Proofs.YtfaaochjaajpjaaDoor
namespace Rows

/-- THE TIED CARD OF 'quernlaw21.PassTexts'. -/
def passTextsCard : Claim7 := { stood := { row := passTextsRow, standIns := [], harness := (true, "67b4fbf7f9611a34f8690d5d18484a2b35b952ef4c0490e742bbb016f0a259ae"), looks := false }, kinds := [], alts := [], laidByText := true, laidKinds := [.data, .data, .data], laidTests := true, laidLooks := .later }
def PassTextsCardSaid : Prop := Claim7.holds Tryd.pinned (.plain (OpenSpec.ofChange passTextsSpec)) passTextsCard

/-- THE TIED CARD OF 'quernlaw21.PassThere'. -/
def passThereCard : Claim7 := { stood := { row := passThereRow, standIns := [], harness := (true, "67b4fbf7f9611a34f8690d5d18484a2b35b952ef4c0490e742bbb016f0a259ae"), looks := false }, kinds := [], alts := [], laidByText := true, laidKinds := [.data, .data, .data], laidTests := true, laidLooks := .later }
def PassThereCardSaid : Prop := Claim7.holds Tryd.pinned (.plain (OpenSpec.ofChange passThereSpec)) passThereCard

/-- THE SECOND FORM's CARD OF 'quernlaw21.PassTexts'. -/
def passTextsUptoCard : Claim7 := { stood := { row := passTextsUptoRow, standIns := [], harness := (true, "67b4fbf7f9611a34f8690d5d18484a2b35b952ef4c0490e742bbb016f0a259ae"), looks := false }, kinds := [], alts := [], laidByText := true, laidKinds := [.data, .data, .data], laidTests := true, laidLooks := .later }
def PassTextsUptoCardSaid : Prop := Claim7.holds Tryd.pinned (.plain (OpenSpec.upto passTextsSpec)) passTextsUptoCard

/-- THE SECOND FORM's CARD OF 'quernlaw21.PassThere'. -/
def passThereUptoCard : Claim7 := { stood := { row := passThereUptoRow, standIns := [], harness := (true, "67b4fbf7f9611a34f8690d5d18484a2b35b952ef4c0490e742bbb016f0a259ae"), looks := false }, kinds := [], alts := [], laidByText := true, laidKinds := [.data, .data, .data], laidTests := true, laidLooks := .later }
def PassThereUptoCardSaid : Prop := Claim7.holds Tryd.pinned (.plain (OpenSpec.upto passThereSpec)) passThereUptoCard
end Rows
end Go.Proofs.YtfaaochjaajpjaaDoor
