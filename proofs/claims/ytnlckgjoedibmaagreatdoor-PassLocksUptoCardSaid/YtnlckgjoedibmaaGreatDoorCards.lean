/-
  DERIVED. GIVEN WITH THE SEED: THE CARDS: each row of YtnlckgjoedibmaaGreatDoorRows.lean that lists a variable, with what it lists TIED to the program's text (the seventh form; the later family's looks); each row that meets fmt, with fmt's text TOLD by the authors' own Lean function (tested against real Go, not proved from fmt's source: count such statements apart). THE CARD IS WHAT COUNTS. Prove the row's statement (the work); the ties are given (YtnlckgjoedibmaaGreatDoorTie.lean); close each card by the builder's one call (the guide's Derived/Test/ToyasCard.lean, 'card_holds'). Laid BY PROGRAM, IN A SANDBOX (cutbox-door.mjs). By AI agents, Wed Nov 11 2026. No macro, syntax, notation, axiom, sorry.
-/
import Derived.Test.YtnlckgjoedibmaaGreatDoorRows
import GoSem.ClaimSeven
namespace Go.Proofs.YtnlckgjoedibmaaGreatDoor
namespace Rows

/-- THE TIED CARD OF 'quernlaw21.PassLocks'. -/
def passLocksCard : Claim7 := { stood := { row := passLocksRow, standIns := [], harness := (true, "0a40aeae05dc3934a14151a58d6bf5e43c69dbc94be1dcb11c0ad491ee6048a4"), looks := false }, kinds := [], alts := [], laidByText := true, laidKinds := [.data, .data, .data], laidTests := true, laidLooks := .later }
def PassLocksCardSaid : Prop := Claim7.holds Tryz.pinned (.plain (OpenSpec.ofChange passLocksSpec)) passLocksCard

/-- THE TIED CARD OF 'quernlaw21.PassPlays'. -/
def passPlaysCard : Claim7 := { stood := { row := passPlaysRow, standIns := [], harness := (true, "0a40aeae05dc3934a14151a58d6bf5e43c69dbc94be1dcb11c0ad491ee6048a4"), looks := false }, kinds := [], alts := [], laidByText := true, laidKinds := [.data, .data, .data, .data, .pinned], laidTests := true, laidLooks := .later }
def PassPlaysCardSaid : Prop := Claim7.holds Tryz.pinned (.plain (OpenSpec.ofChange passPlaysSpec)) passPlaysCard

/-- THE SECOND FORM's CARD OF 'quernlaw21.PassLocks'. -/
def passLocksUptoCard : Claim7 := { stood := { row := passLocksUptoRow, standIns := [], harness := (true, "0a40aeae05dc3934a14151a58d6bf5e43c69dbc94be1dcb11c0ad491ee6048a4"), looks := false }, kinds := [], alts := [], laidByText := true, laidKinds := [.data, .data, .data], laidTests := true, laidLooks := .later }
def PassLocksUptoCardSaid : Prop := Claim7.holds Tryz.pinned (.plain (OpenSpec.upto passLocksSpec)) passLocksUptoCard

/-- THE SECOND FORM's CARD OF 'quernlaw21.PassPlays'. -/
def passPlaysUptoCard : Claim7 := { stood := { row := passPlaysUptoRow, standIns := [], harness := (true, "0a40aeae05dc3934a14151a58d6bf5e43c69dbc94be1dcb11c0ad491ee6048a4"), looks := false }, kinds := [], alts := [], laidByText := true, laidKinds := [.data, .data, .data, .data, .pinned], laidTests := true, laidLooks := .later }
def PassPlaysUptoCardSaid : Prop := Claim7.holds Tryz.pinned (.plain (OpenSpec.upto passPlaysSpec)) passPlaysUptoCard
end Rows
end Go.Proofs.YtnlckgjoedibmaaGreatDoor
