/-
  DERIVED. GIVEN WITH THE SEED: THE CARDS: each row of YtaaniciepkoccaaGreatDoorRows.lean that lists a variable, with what it lists TIED to the program's text (the seventh form; the later family's looks); each row that meets fmt, with fmt's text TOLD by the authors' own Lean function (tested against real Go, not proved from fmt's source: count such statements apart). THE CARD IS WHAT COUNTS. Prove the row's statement (the work); the ties are given (YtaaniciepkoccaaGreatDoorTie.lean); close each card by the builder's one call (the guide's Derived/Test/ToyasCard.lean, 'card_holds'). Laid BY PROGRAM, IN A SANDBOX (cutbox-door.mjs). By AI agents, Wed Nov 11 2026. No macro, syntax, notation, axiom, sorry.
-/
import Derived.Test.YtaaniciepkoccaaGreatDoorRows
import GoSem.ClaimSeven
namespace Go.Proofs.YtaaniciepkoccaaGreatDoor
namespace Rows

/-- THE TIED CARD OF 'quernlaw21.PassNil'. -/
def passNilCard : Claim7 := { stood := { row := passNilRow, standIns := [], harness := (true, "9cb5e345da29a48dd6f6811c02de1485b5c67f4ee608f24094fb3695ce1e7148"), looks := false }, kinds := [], alts := [], laidByText := true, laidKinds := [.data, .data, .data], laidTests := true, laidLooks := .later }
def PassNilCardSaid : Prop := Claim7.holds Tryz.pinned (.plain (OpenSpec.ofChange passNilSpec)) passNilCard

/-- THE SECOND FORM's CARD OF 'quernlaw21.PassNil'. -/
def passNilUptoCard : Claim7 := { stood := { row := passNilUptoRow, standIns := [], harness := (true, "9cb5e345da29a48dd6f6811c02de1485b5c67f4ee608f24094fb3695ce1e7148"), looks := false }, kinds := [], alts := [], laidByText := true, laidKinds := [.data, .data, .data], laidTests := true, laidLooks := .later }
def PassNilUptoCardSaid : Prop := Claim7.holds Tryz.pinned (.plain (OpenSpec.upto passNilSpec)) passNilUptoCard
end Rows
end Go.Proofs.YtaaniciepkoccaaGreatDoor
