/-
  No cell of these rows narrows 'for every input' (looked for: loops, veiled, ifaces, maps, wideKeys, modest, calm, conditions, laid).
  DERIVED. THE GIVEN ROWS OF THIS SEAT. 2 by the template 'for every input the law returns true; each argument reads behind the call as it read before'; 0 by the template 'total and deterministic' (their statements: YteioojhohpnlkaaGreatTotals.lean).
  GIVEN WITH THE SEED: the statements are not yours to turn. If you find one false, say at which input.
  Laid BY PROGRAM, IN A SANDBOX (cutbox-rows.mjs): the forced cells as the released guide's own fill.sh prints them over the translation 4eb395cf76bd75ea… (all of the seat's roots in one cut). By AI agents, Wed Nov 11 2026. No macro, syntax, notation, axiom, sorry.
-/
import Derived.Test.YteioojhohpnlkaaGreatChecked
import GoSem.Claim
import GoSem.ClaimJoined
import GoSem.ClaimMapViews
import Derived.JoinedTies
import Derived.KernelRfl
namespace Go.Proofs.YteioojhohpnlkaaGreat
/- THE CELL 'sum', in the pinned program and in every row, IS THE sha256 OF THE DUMP (.gsa) THAT YteioojhohpnlkaaGreatProg.lean LOADS. Nothing in Lean hashes anything: it is a label: what it is worth is what the hold of that sum in a sandbox is worth. -/
noncomputable def Tryz.pinned : Pinned := { name := "yteioojhohpnlkaagreat", sum := "4eb395cf76bd75ea42b6f63cf7f4dc7835c565618de8cbb6dc51e729c02f7b8d", checked := Tryz.checked }
namespace Rows
def none {H : Type} : Left H := { results := [], args := [] }

/-- 'quernlaw25.DiceNil': WHATEVER THE INPUT: true; the input reads as it did. -/
def diceNilSpec : ChangeSpec := { name := "diceNil", fn := fun _ => fun
  | [d1, d2, d3] => { results := [.lit (.bool true)], args := [d1, d2, d3] }
  | _ => none }
def diceNilRow : OpenClaim := { program := "yteioojhohpnlkaagreat", sum := "4eb395cf76bd75ea42b6f63cf7f4dc7835c565618de8cbb6dc51e729c02f7b8d", func := "quern/quernlaw25.DiceNil", spec := "diceNil", inPlace := ["math.Float64bits", "math.Float64frombits"], unfollowed := true, recurses := true, named := ["math/bits.divideError", "math/bits.overflowError"], apart := false }
def DiceNilSaid : Prop := diceNilRow.holds Tryz.pinned (OpenSpec.ofChange diceNilSpec)

/-- ITS FALSE NEIGHBOUR: 'it returns false'. Refute it at one input. -/
def diceNilWrong : ChangeSpec := { name := "diceNil", fn := fun _ => fun
  | [d1, d2, d3] => { results := [.lit (.bool false)], args := [d1, d2, d3] }
  | _ => none }
def DiceNilWrongFalsely : Prop := diceNilRow.holds Tryz.pinned (OpenSpec.ofChange diceNilWrong)

/-- 'quernlaw27.DepotNil': WHATEVER THE INPUT: true; the input reads as it did. -/
def depotNilSpec : ChangeSpec := { name := "depotNil", fn := fun _ => fun
  | [d1, d2, d3] => { results := [.lit (.bool true)], args := [d1, d2, d3] }
  | _ => none }
def depotNilRow : OpenClaim := { program := "yteioojhohpnlkaagreat", sum := "4eb395cf76bd75ea42b6f63cf7f4dc7835c565618de8cbb6dc51e729c02f7b8d", func := "quern/quernlaw27.DepotNil", spec := "depotNil", inPlace := ["math.Float64bits"], unfollowed := true, recurses := true, apart := false }
def DepotNilSaid : Prop := depotNilRow.holds Tryz.pinned (OpenSpec.ofChange depotNilSpec)

/-- ITS FALSE NEIGHBOUR: 'it returns false'. Refute it at one input. -/
def depotNilWrong : ChangeSpec := { name := "depotNil", fn := fun _ => fun
  | [d1, d2, d3] => { results := [.lit (.bool false)], args := [d1, d2, d3] }
  | _ => none }
def DepotNilWrongFalsely : Prop := depotNilRow.holds Tryz.pinned (OpenSpec.ofChange depotNilWrong)

/- THE SECOND FORM. 'bulk': how many values and letters a reading holds, each counted each time it is reached (what is shared counts as often as it is met; a slice's spare places count too). A statement '..UptoSaid' is the law's where the arguments, and the package variables that the reading takes, are together of bulk at most 1048576: NARROWER than '..Said'. Prove '..Said' where nothing that the law and all that it calls make is longer than what came in: it says more and counts as full. Else prove '..UptoSaid'. A law counts once. -/
mutual
def uptoBulk {H : Type} : DataW H → Nat
  | .lit (.string bytes) => bytes.length + 1
  | .lit _ => 1
  | .nil => 1
  | .ptr d => uptoBulk d + 1
  | .slice elems spare => uptoBulkAll elems + uptoBulkAll spare + 1
  | .agg parts => uptoBulkAll parts + 1
  | .iface _ d => uptoBulk d + 1
  | .map entries => uptoBulkEntries entries + 1
  | .held _ => 1
def uptoBulkAll {H : Type} : List (DataW H) → Nat
  | [] => 0
  | d :: r => uptoBulk d + uptoBulkAll r
def uptoBulkEntries {H : Type} : List (Lit × DataW H) → Nat
  | [] => 0
  | x :: r => uptoBulkEntry x + uptoBulkEntries r
def uptoBulkEntry {H : Type} : Lit × DataW H → Nat
  | (.string bytes, d) => bytes.length + uptoBulk d + 1
  | (_, d) => uptoBulk d + 1
 end
def uptoSmall : (H : Type) → List (DataW H) → Bool := fun _ ds => decide (uptoBulkAll ds ≤ 1048576)
def OpenSpec.upto (s : _root_.Go.ChangeSpec) : _root_.Go.OpenSpec := { _root_.Go.OpenSpec.ofChange s with cond := some uptoSmall }

/-- 'quernlaw25.DiceNil', WHERE WHAT IT READS IS OF BULK AT MOST 1048576: true; the input reads as it did. -/
def diceNilUptoRow : OpenClaim := { program := "yteioojhohpnlkaagreat", sum := "4eb395cf76bd75ea42b6f63cf7f4dc7835c565618de8cbb6dc51e729c02f7b8d", func := "quern/quernlaw25.DiceNil", spec := "diceNil", inPlace := ["math.Float64bits", "math.Float64frombits"], unfollowed := true, recurses := true, named := ["math/bits.divideError", "math/bits.overflowError"], apart := false, narrowed := true }
def DiceNilUptoSaid : Prop := diceNilUptoRow.holds Tryz.pinned (OpenSpec.upto diceNilSpec)

/-- 'quernlaw27.DepotNil', WHERE WHAT IT READS IS OF BULK AT MOST 1048576: true; the input reads as it did. -/
def depotNilUptoRow : OpenClaim := { program := "yteioojhohpnlkaagreat", sum := "4eb395cf76bd75ea42b6f63cf7f4dc7835c565618de8cbb6dc51e729c02f7b8d", func := "quern/quernlaw27.DepotNil", spec := "depotNil", inPlace := ["math.Float64bits"], unfollowed := true, recurses := true, apart := false, narrowed := true }
def DepotNilUptoSaid : Prop := depotNilUptoRow.holds Tryz.pinned (OpenSpec.upto depotNilSpec)

end Rows
end Go.Proofs.YteioojhohpnlkaaGreat
