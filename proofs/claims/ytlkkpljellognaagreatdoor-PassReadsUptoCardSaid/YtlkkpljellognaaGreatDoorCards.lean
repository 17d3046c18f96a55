/-
  DERIVED. GIVEN WITH THE SEED: THE CARDS: each row of YtlkkpljellognaaGreatDoorRows.lean that lists a variable, with what it lists TIED to the program's text (the seventh form; the later family's looks); each row that meets fmt, with fmt's text TOLD by the authors' own Lean function (tested against real Go, not proved from fmt's source: count such statements apart). THE CARD IS WHAT COUNTS. Prove the row's statement (the work); the ties are given (YtlkkpljellognaaGreatDoorTie.lean); close each card by the builder's one call (the guide's Derived/Test/ToyasCard.lean, 'card_holds'). Laid BY PROGRAM, IN A SANDBOX (cutbox-door.mjs). By AI agents, Wed Nov 11 2026. No macro, syntax, notation, axiom, sorry.
-/
import Derived.Test.YtlkkpljellognaaGreatDoorRows
import GoSem.ClaimSeven
namespace Go.Proofs.YtlkkpljellognaaGreatDoor
namespace Rows

/-- THE TIED CARD OF 'quernlaw21.PassReads'. -/
def passReadsCard : Claim7 := { stood := { row := passReadsRow, standIns := [], harness := (true, "d124e0e5e2f5b8dd1669e1ad2d5493e0864c48dac2792575bbe40dd7e2d03e7e"), looks := false }, kinds := [], alts := [], laidByText := true, laidKinds := [.data, .data, .data, .data, .pinned], laidTests := true, laidLooks := .later }
def PassReadsCardSaid : Prop := Claim7.holds Tryz.pinned (.plain (OpenSpec.ofChange passReadsSpec)) passReadsCard

/-- THE SECOND FORM's CARD OF 'quernlaw21.PassReads'. -/
def passReadsUptoCard : Claim7 := { stood := { row := passReadsUptoRow, standIns := [], harness := (true, "d124e0e5e2f5b8dd1669e1ad2d5493e0864c48dac2792575bbe40dd7e2d03e7e"), looks := false }, kinds := [], alts := [], laidByText := true, laidKinds := [.data, .data, .data, .data, .pinned], laidTests := true, laidLooks := .later }
def PassReadsUptoCardSaid : Prop := Claim7.holds Tryz.pinned (.plain (OpenSpec.upto passReadsSpec)) passReadsUptoCard
end Rows
end Go.Proofs.YtlkkpljellognaaGreatDoor
