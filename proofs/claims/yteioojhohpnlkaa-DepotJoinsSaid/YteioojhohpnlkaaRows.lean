/-
  No cell of these rows narrows 'for every input' (looked for: loops, veiled, ifaces, maps, wideKeys, modest, calm, conditions, laid).
  DERIVED. THE GIVEN ROWS OF THIS SEAT. 6 by the template 'for every input the law returns true; each argument reads behind the call as it read before'; 0 by the template 'total and deterministic' (their statements: YteioojhohpnlkaaTotals.lean).
  GIVEN WITH THE SEED: the statements are not yours to turn. If you find one false, say at which input.
  Laid BY PROGRAM, IN A SANDBOX (cutbox-rows.mjs): the forced cells as the released guide's own fill.sh prints them over the translation 4b4945f8fbbe11ad… (all of the seat's roots in one cut). By AI agents, Wed Nov 11 2026. No macro, syntax, notation, axiom, sorry.
-/
import Derived.Test.YteioojhohpnlkaaChecked
import GoSem.Claim
import GoSem.ClaimJoined
import GoSem.ClaimMapViews
import Derived.JoinedTies
import Derived.KernelRfl
namespace Go.Proofs.Yteioojhohpnlkaa
/- THE CELL 'sum', in the pinned program and in every row, IS THE sha256 OF THE DUMP (.gsa) THAT YteioojhohpnlkaaProg.lean LOADS. Nothing in Lean hashes anything: it is a label: what it is worth is what the hold of that sum in a sandbox is worth. -/
noncomputable def Try.pinned : Pinned := { name := "yteioojhohpnlkaa", sum := "4b4945f8fbbe11adf307f796da4addab7bc23b46382fa7e7fe7051e5f1593438", checked := Try.checked }
namespace Rows
def none {H : Type} : Left H := { results := [], args := [] }

/-- 'quernlaw27.DepotChunks': WHATEVER THE INPUT: true; the input reads as it did. -/
def depotChunksSpec : ChangeSpec := { name := "depotChunks", fn := fun _ => fun
  | [d] => { results := [.lit (.bool true)], args := [d] }
  | _ => none }
def depotChunksRow : OpenClaim := { program := "yteioojhohpnlkaa", sum := "4b4945f8fbbe11adf307f796da4addab7bc23b46382fa7e7fe7051e5f1593438", func := "quern/quernlaw27.DepotChunks", spec := "depotChunks", apart := false }
def DepotChunksSaid : Prop := depotChunksRow.holds Try.pinned (OpenSpec.ofChange depotChunksSpec)

/-- ITS FALSE NEIGHBOUR: 'it returns false'. Refute it at one input. -/
def depotChunksWrong : ChangeSpec := { name := "depotChunks", fn := fun _ => fun
  | [d] => { results := [.lit (.bool false)], args := [d] }
  | _ => none }
def DepotChunksWrongFalsely : Prop := depotChunksRow.holds Try.pinned (OpenSpec.ofChange depotChunksWrong)

/-- 'quernlaw27.DepotJoins': WHATEVER THE INPUT: true; the input reads as it did. -/
def depotJoinsSpec : ChangeSpec := { name := "depotJoins", fn := fun _ => fun
  | [d1, d2] => { results := [.lit (.bool true)], args := [d1, d2] }
  | _ => none }
def depotJoinsRow : OpenClaim := { program := "yteioojhohpnlkaa", sum := "4b4945f8fbbe11adf307f796da4addab7bc23b46382fa7e7fe7051e5f1593438", func := "quern/quernlaw27.DepotJoins", spec := "depotJoins", apart := false }
def DepotJoinsSaid : Prop := depotJoinsRow.holds Try.pinned (OpenSpec.ofChange depotJoinsSpec)

/-- ITS FALSE NEIGHBOUR: 'it returns false'. Refute it at one input. -/
def depotJoinsWrong : ChangeSpec := { name := "depotJoins", fn := fun _ => fun
  | [d1, d2] => { results := [.lit (.bool false)], args := [d1, d2] }
  | _ => none }
def DepotJoinsWrongFalsely : Prop := depotJoinsRow.holds Try.pinned (OpenSpec.ofChange depotJoinsWrong)

/-- 'quernlaw21.PassNames': WHATEVER THE INPUT: true; the input reads as it did. -/
def passNamesSpec : ChangeSpec := { name := "passNames", fn := fun _ => fun
  | [] => { results := [.lit (.bool true)], args := [] }
  | _ => none }
def passNamesRow : OpenClaim := { program := "yteioojhohpnlkaa", sum := "4b4945f8fbbe11adf307f796da4addab7bc23b46382fa7e7fe7051e5f1593438", func := "quern/quernlaw21.PassNames", spec := "passNames", apart := false }
def PassNamesSaid : Prop := passNamesRow.holds Try.pinned (OpenSpec.ofChange passNamesSpec)

/-- ITS FALSE NEIGHBOUR: 'it returns false'. Refute it at one input. -/
def passNamesWrong : ChangeSpec := { name := "passNames", fn := fun _ => fun
  | [] => { results := [.lit (.bool false)], args := [] }
  | _ => none }
def PassNamesWrongFalsely : Prop := passNamesRow.holds Try.pinned (OpenSpec.ofChange passNamesWrong)

/-- 'querntop.WholeStreams': WHATEVER THE INPUT: true; the input reads as it did. -/
def wholeStreamsSpec : ChangeSpec := { name := "wholeStreams", fn := fun _ => fun
  | [d1, d2, d3, d4, d5] => { results := [.lit (.bool true)], args := [d1, d2, d3, d4, d5] }
  | _ => none }
def wholeStreamsRow : OpenClaim := { program := "yteioojhohpnlkaa", sum := "4b4945f8fbbe11adf307f796da4addab7bc23b46382fa7e7fe7051e5f1593438", func := "quern/querntop.WholeStreams", spec := "wholeStreams", unfollowed := true, recurses := true, apart := false }
def WholeStreamsSaid : Prop := wholeStreamsRow.holds Try.pinned (OpenSpec.ofChange wholeStreamsSpec)

/-- ITS FALSE NEIGHBOUR: 'it returns false'. Refute it at one input. -/
def wholeStreamsWrong : ChangeSpec := { name := "wholeStreams", fn := fun _ => fun
  | [d1, d2, d3, d4, d5] => { results := [.lit (.bool false)], args := [d1, d2, d3, d4, d5] }
  | _ => none }
def WholeStreamsWrongFalsely : Prop := wholeStreamsRow.holds Try.pinned (OpenSpec.ofChange wholeStreamsWrong)

/-- 'quernlaw25.DiceNames': WHATEVER THE INPUT: true; the input reads as it did. -/
def diceNamesSpec : ChangeSpec := { name := "diceNames", fn := fun _ => fun
  | [] => { results := [.lit (.bool true)], args := [] }
  | _ => none }
def diceNamesRow : OpenClaim := { program := "yteioojhohpnlkaa", sum := "4b4945f8fbbe11adf307f796da4addab7bc23b46382fa7e7fe7051e5f1593438", func := "quern/quernlaw25.DiceNames", spec := "diceNames", inPlace := ["math.Float64bits", "math.Float64frombits"], unfollowed := true, recurses := true, named := ["math/bits.divideError", "math/bits.overflowError"], apart := false }
def DiceNamesSaid : Prop := diceNamesRow.holds Try.pinned (OpenSpec.ofChange diceNamesSpec)

/-- ITS FALSE NEIGHBOUR: 'it returns false'. Refute it at one input. -/
def diceNamesWrong : ChangeSpec := { name := "diceNames", fn := fun _ => fun
  | [] => { results := [.lit (.bool false)], args := [] }
  | _ => none }
def DiceNamesWrongFalsely : Prop := diceNamesRow.holds Try.pinned (OpenSpec.ofChange diceNamesWrong)

/-- 'quernlaw25.DiceSkips': WHATEVER THE INPUT: true; the input reads as it did. -/
def diceSkipsSpec : ChangeSpec := { name := "diceSkips", fn := fun _ => fun
  | [d1, d2, d3] => { results := [.lit (.bool true)], args := [d1, d2, d3] }
  | _ => none }
def diceSkipsRow : OpenClaim := { program := "yteioojhohpnlkaa", sum := "4b4945f8fbbe11adf307f796da4addab7bc23b46382fa7e7fe7051e5f1593438", func := "quern/quernlaw25.DiceSkips", spec := "diceSkips", inPlace := ["math.Float64bits", "math.Float64frombits"], unfollowed := true, recurses := true, named := ["math/bits.divideError", "math/bits.overflowError"], apart := false }
def DiceSkipsSaid : Prop := diceSkipsRow.holds Try.pinned (OpenSpec.ofChange diceSkipsSpec)

/-- ITS FALSE NEIGHBOUR: 'it returns false'. Refute it at one input. -/
def diceSkipsWrong : ChangeSpec := { name := "diceSkips", fn := fun _ => fun
  | [d1, d2, d3] => { results := [.lit (.bool false)], args := [d1, d2, d3] }
  | _ => none }
def DiceSkipsWrongFalsely : Prop := diceSkipsRow.holds Try.pinned (OpenSpec.ofChange diceSkipsWrong)

/- THE SECOND FORM. 'bulk': how many values and letters a reading holds, each counted each time it is reached (what is shared counts as often as it is met; a slice's spare places count too). A statement '..UptoSaid' is the law's where the arguments, and the package variables that the reading takes, are together of bulk at most 1048576: NARROWER than '..Said'. Prove '..Said' where nothing that the law and all that it calls make is longer than what came in: it says more and counts as full. Else prove '..UptoSaid'. A law counts once. -/
mutual
def uptoBulk {H : Type} : DataW H → Nat
  | .lit (.string bytes) => bytes.length + 1
  | .lit _ => 1
  | .nil => 1
  | .ptr d => uptoBulk d + 1
  | .slice elems spare => uptoBulkAll elems + uptoBulkAll spare + 1
  | .agg parts => uptoBulkAll parts + 1
  | .iface _ d => uptoBulk d + 1
  | .map entries => uptoBulkEntries entries + 1
  | .held _ => 1
def uptoBulkAll {H : Type} : List (DataW H) → Nat
  | [] => 0
  | d :: r => uptoBulk d + uptoBulkAll r
def uptoBulkEntries {H : Type} : List (Lit × DataW H) → Nat
  | [] => 0
  | x :: r => uptoBulkEntry x + uptoBulkEntries r
def uptoBulkEntry {H : Type} : Lit × DataW H → Nat
  | (.string bytes, d) => bytes.length + uptoBulk d + 1
  | (_, d) => uptoBulk d + 1
 end
def uptoSmall : (H : Type) → List (DataW H) → Bool := fun _ ds => decide (uptoBulkAll ds ≤ 1048576)
def OpenSpec.upto (s : _root_.Go.ChangeSpec) : _root_.Go.OpenSpec := { _root_.Go.OpenSpec.ofChange s with cond := some uptoSmall }

/-- 'quernlaw27.DepotChunks', WHERE WHAT IT READS IS OF BULK AT MOST 1048576: true; the input reads as it did. -/
def depotChunksUptoRow : OpenClaim := { program := "yteioojhohpnlkaa", sum := "4b4945f8fbbe11adf307f796da4addab7bc23b46382fa7e7fe7051e5f1593438", func := "quern/quernlaw27.DepotChunks", spec := "depotChunks", apart := false, narrowed := true }
def DepotChunksUptoSaid : Prop := depotChunksUptoRow.holds Try.pinned (OpenSpec.upto depotChunksSpec)

/-- 'quernlaw27.DepotJoins', WHERE WHAT IT READS IS OF BULK AT MOST 1048576: true; the input reads as it did. -/
def depotJoinsUptoRow : OpenClaim := { program := "yteioojhohpnlkaa", sum := "4b4945f8fbbe11adf307f796da4addab7bc23b46382fa7e7fe7051e5f1593438", func := "quern/quernlaw27.DepotJoins", spec := "depotJoins", apart := false, narrowed := true }
def DepotJoinsUptoSaid : Prop := depotJoinsUptoRow.holds Try.pinned (OpenSpec.upto depotJoinsSpec)

/-- 'quernlaw21.PassNames', WHERE WHAT IT READS IS OF BULK AT MOST 1048576: true; the input reads as it did. -/
def passNamesUptoRow : OpenClaim := { program := "yteioojhohpnlkaa", sum := "4b4945f8fbbe11adf307f796da4addab7bc23b46382fa7e7fe7051e5f1593438", func := "quern/quernlaw21.PassNames", spec := "passNames", apart := false, narrowed := true }
def PassNamesUptoSaid : Prop := passNamesUptoRow.holds Try.pinned (OpenSpec.upto passNamesSpec)

/-- 'querntop.WholeStreams', WHERE WHAT IT READS IS OF BULK AT MOST 1048576: true; the input reads as it did. -/
def wholeStreamsUptoRow : OpenClaim := { program := "yteioojhohpnlkaa", sum := "4b4945f8fbbe11adf307f796da4addab7bc23b46382fa7e7fe7051e5f1593438", func := "quern/querntop.WholeStreams", spec := "wholeStreams", unfollowed := true, recurses := true, apart := false, narrowed := true }
def WholeStreamsUptoSaid : Prop := wholeStreamsUptoRow.holds Try.pinned (OpenSpec.upto wholeStreamsSpec)

/-- 'quernlaw25.DiceNames', WHERE WHAT IT READS IS OF BULK AT MOST 1048576: true; the input reads as it did. -/
def diceNamesUptoRow : OpenClaim := { program := "yteioojhohpnlkaa", sum := "4b4945f8fbbe11adf307f796da4addab7bc23b46382fa7e7fe7051e5f1593438", func := "quern/quernlaw25.DiceNames", spec := "diceNames", inPlace := ["math.Float64bits", "math.Float64frombits"], unfollowed := true, recurses := true, named := ["math/bits.divideError", "math/bits.overflowError"], apart := false, narrowed := true }
def DiceNamesUptoSaid : Prop := diceNamesUptoRow.holds Try.pinned (OpenSpec.upto diceNamesSpec)

/-- 'quernlaw25.DiceSkips', WHERE WHAT IT READS IS OF BULK AT MOST 1048576: true; the input reads as it did. -/
def diceSkipsUptoRow : OpenClaim := { program := "yteioojhohpnlkaa", sum := "4b4945f8fbbe11adf307f796da4addab7bc23b46382fa7e7fe7051e5f1593438", func := "quern/quernlaw25.DiceSkips", spec := "diceSkips", inPlace := ["math.Float64bits", "math.Float64frombits"], unfollowed := true, recurses := true, named := ["math/bits.divideError", "math/bits.overflowError"], apart := false, narrowed := true }
def DiceSkipsUptoSaid : Prop := diceSkipsUptoRow.holds Try.pinned (OpenSpec.upto diceSkipsSpec)

end Rows
end Go.Proofs.Yteioojhohpnlkaa
