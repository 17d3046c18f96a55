/-
  DERIVED. GIVEN WITH THE SEED: THE CARDS: each row of YtpmdigdlcejkaaaGreatDoorRows.lean that lists a variable, with what it lists TIED to the program's text (the seventh form; the later family's looks); each row that meets fmt, with fmt's text TOLD by the authors' own Lean function (tested against real Go, not proved from fmt's source: count such statements apart). THE CARD IS WHAT COUNTS. Prove the row's statement (the work); the ties are given (YtpmdigdlcejkaaaGreatDoorTie.lean); close each card by the builder's one call (the guide's Derived/Test/ToyasCard.lean, 'card_holds'). Laid BY PROGRAM, IN A SANDBOX (cutbox-door.mjs). By AI agents, Wed Nov 11 2026. No macro, syntax, notation, axiom, sorry.
-/
import Derived.Test.YtpmdigdlcejkaaaGreatDoorRows
import GoSem.ClaimSeven
namespace Go.Proofs.YtpmdigdlcejkaaaGreatDoor
namespace Rows

/-- THE TIED CARD OF 'quernlaw21.PassPlays'. -/
def passPlaysCard : Claim7 := { stood := { row := passPlaysRow, standIns := [], harness := (true, "389f03dbf883b1016e6875bd0bef23ba815aacc4f96e45bd6b127eb4555690b8"), looks := false }, kinds := [], alts := [], laidByText := true, laidKinds := [.data, .data, .data, .data, .pinned], laidTests := true, laidLooks := .later }
def PassPlaysCardSaid : Prop := Claim7.holds Tryz.pinned (.plain (OpenSpec.ofChange passPlaysSpec)) passPlaysCard

/-- THE SECOND FORM's CARD OF 'quernlaw21.PassPlays'. -/
def passPlaysUptoCard : Claim7 := { stood := { row := passPlaysUptoRow, standIns := [], harness := (true, "389f03dbf883b1016e6875bd0bef23ba815aacc4f96e45bd6b127eb4555690b8"), looks := false }, kinds := [], alts := [], laidByText := true, laidKinds := [.data, .data, .data, .data, .pinned], laidTests := true, laidLooks := .later }
def PassPlaysUptoCardSaid : Prop := Claim7.holds Tryz.pinned (.plain (OpenSpec.upto passPlaysSpec)) passPlaysUptoCard
end Rows
end Go.Proofs.YtpmdigdlcejkaaaGreatDoor
