/-
  No cell of these rows narrows 'for every input' (looked for: loops, veiled, ifaces, maps, wideKeys, modest, calm, conditions, laid).
  DERIVED. THE GIVEN ROWS OF THIS SEAT. 12 by the template 'for every input the law returns true; each argument reads behind the call as it read before'; 0 by the template 'total and deterministic' (their statements: YthnnpkkmfalgkaaTotals.lean).
  GIVEN WITH THE SEED: the statements are not yours to turn. If you find one false, say at which input.
  Laid BY PROGRAM, IN A SANDBOX (cutbox-rows.mjs): the forced cells as the released guide's own fill.sh prints them over the translation 943663656f5e45dc… (all of the seat's roots in one cut). By AI agents, Wed Nov 11 2026. No macro, syntax, notation, axiom, sorry.
-/
import Derived.Test.YthnnpkkmfalgkaaChecked
import GoSem.Claim
import GoSem.ClaimJoined
import GoSem.ClaimMapViews
import Derived.JoinedTies
import Derived.KernelRfl
namespace Go.Proofs.Ythnnpkkmfalgkaa
/- THE CELL 'sum', in the pinned program and in every row, IS THE sha256 OF THE DUMP (.gsa) THAT YthnnpkkmfalgkaaProg.lean LOADS. Nothing in Lean hashes anything: it is a label: what it is worth is what the hold of that sum in a sandbox is worth. -/
noncomputable def Try.pinned : Pinned := { name := "ythnnpkkmfalgkaa", sum := "943663656f5e45dcdeb851562df30e73d405bf26c5b83acb56d5f61f72ba7c75", checked := Try.checked }
namespace Rows
def none {H : Type} : Left H := { results := [], args := [] }

/-- 'quernlaw01.WordSame': WHATEVER THE INPUT: true; the input reads as it did. -/
def wordSameSpec : ChangeSpec := { name := "wordSame", fn := fun _ => fun
  | [d1, d2, d3, d4] => { results := [.lit (.bool true)], args := [d1, d2, d3, d4] }
  | _ => none }
def wordSameRow : OpenClaim := { program := "ythnnpkkmfalgkaa", sum := "943663656f5e45dcdeb851562df30e73d405bf26c5b83acb56d5f61f72ba7c75", func := "quern/quernlaw01.WordSame", spec := "wordSame", apart := false }
def WordSameSaid : Prop := wordSameRow.holds Try.pinned (OpenSpec.ofChange wordSameSpec)

/-- ITS FALSE NEIGHBOUR: 'it returns false'. Refute it at one input. -/
def wordSameWrong : ChangeSpec := { name := "wordSame", fn := fun _ => fun
  | [d1, d2, d3, d4] => { results := [.lit (.bool false)], args := [d1, d2, d3, d4] }
  | _ => none }
def WordSameWrongFalsely : Prop := wordSameRow.holds Try.pinned (OpenSpec.ofChange wordSameWrong)

/-- 'quernlaw27.DepotNames': WHATEVER THE INPUT: true; the input reads as it did. -/
def depotNamesSpec : ChangeSpec := { name := "depotNames", fn := fun _ => fun
  | [] => { results := [.lit (.bool true)], args := [] }
  | _ => none }
def depotNamesRow : OpenClaim := { program := "ythnnpkkmfalgkaa", sum := "943663656f5e45dcdeb851562df30e73d405bf26c5b83acb56d5f61f72ba7c75", func := "quern/quernlaw27.DepotNames", spec := "depotNames", apart := false }
def DepotNamesSaid : Prop := depotNamesRow.holds Try.pinned (OpenSpec.ofChange depotNamesSpec)

/-- ITS FALSE NEIGHBOUR: 'it returns false'. Refute it at one input. -/
def depotNamesWrong : ChangeSpec := { name := "depotNames", fn := fun _ => fun
  | [] => { results := [.lit (.bool false)], args := [] }
  | _ => none }
def DepotNamesWrongFalsely : Prop := depotNamesRow.holds Try.pinned (OpenSpec.ofChange depotNamesWrong)

/-- 'quernlaw01.WordBack': WHATEVER THE INPUT: true; the input reads as it did. -/
def wordBackSpec : ChangeSpec := { name := "wordBack", fn := fun _ => fun
  | [d1, d2, d3, d4] => { results := [.lit (.bool true)], args := [d1, d2, d3, d4] }
  | _ => none }
def wordBackRow : OpenClaim := { program := "ythnnpkkmfalgkaa", sum := "943663656f5e45dcdeb851562df30e73d405bf26c5b83acb56d5f61f72ba7c75", func := "quern/quernlaw01.WordBack", spec := "wordBack", apart := false }
def WordBackSaid : Prop := wordBackRow.holds Try.pinned (OpenSpec.ofChange wordBackSpec)

/-- ITS FALSE NEIGHBOUR: 'it returns false'. Refute it at one input. -/
def wordBackWrong : ChangeSpec := { name := "wordBack", fn := fun _ => fun
  | [d1, d2, d3, d4] => { results := [.lit (.bool false)], args := [d1, d2, d3, d4] }
  | _ => none }
def WordBackWrongFalsely : Prop := wordBackRow.holds Try.pinned (OpenSpec.ofChange wordBackWrong)

/-- 'quernlaw01.WordSums': WHATEVER THE INPUT: true; the input reads as it did. -/
def wordSumsSpec : ChangeSpec := { name := "wordSums", fn := fun _ => fun
  | [d1, d2, d3] => { results := [.lit (.bool true)], args := [d1, d2, d3] }
  | _ => none }
def wordSumsRow : OpenClaim := { program := "ythnnpkkmfalgkaa", sum := "943663656f5e45dcdeb851562df30e73d405bf26c5b83acb56d5f61f72ba7c75", func := "quern/quernlaw01.WordSums", spec := "wordSums", inPlace := ["math/bits.Add64"], apart := false }
def WordSumsSaid : Prop := wordSumsRow.holds Try.pinned (OpenSpec.ofChange wordSumsSpec)

/-- ITS FALSE NEIGHBOUR: 'it returns false'. Refute it at one input. -/
def wordSumsWrong : ChangeSpec := { name := "wordSums", fn := fun _ => fun
  | [d1, d2, d3] => { results := [.lit (.bool false)], args := [d1, d2, d3] }
  | _ => none }
def WordSumsWrongFalsely : Prop := wordSumsRow.holds Try.pinned (OpenSpec.ofChange wordSumsWrong)

/-- 'quernlaw27.DepotChunks': WHATEVER THE INPUT: true; the input reads as it did. -/
def depotChunksSpec : ChangeSpec := { name := "depotChunks", fn := fun _ => fun
  | [d] => { results := [.lit (.bool true)], args := [d] }
  | _ => none }
def depotChunksRow : OpenClaim := { program := "ythnnpkkmfalgkaa", sum := "943663656f5e45dcdeb851562df30e73d405bf26c5b83acb56d5f61f72ba7c75", func := "quern/quernlaw27.DepotChunks", spec := "depotChunks", apart := false }
def DepotChunksSaid : Prop := depotChunksRow.holds Try.pinned (OpenSpec.ofChange depotChunksSpec)

/-- ITS FALSE NEIGHBOUR: 'it returns false'. Refute it at one input. -/
def depotChunksWrong : ChangeSpec := { name := "depotChunks", fn := fun _ => fun
  | [d] => { results := [.lit (.bool false)], args := [d] }
  | _ => none }
def DepotChunksWrongFalsely : Prop := depotChunksRow.holds Try.pinned (OpenSpec.ofChange depotChunksWrong)

/-- 'quernlaw27.DepotJoins': WHATEVER THE INPUT: true; the input reads as it did. -/
def depotJoinsSpec : ChangeSpec := { name := "depotJoins", fn := fun _ => fun
  | [d1, d2] => { results := [.lit (.bool true)], args := [d1, d2] }
  | _ => none }
def depotJoinsRow : OpenClaim := { program := "ythnnpkkmfalgkaa", sum := "943663656f5e45dcdeb851562df30e73d405bf26c5b83acb56d5f61f72ba7c75", func := "quern/quernlaw27.DepotJoins", spec := "depotJoins", apart := false }
def DepotJoinsSaid : Prop := depotJoinsRow.holds Try.pinned (OpenSpec.ofChange depotJoinsSpec)

/-- ITS FALSE NEIGHBOUR: 'it returns false'. Refute it at one input. -/
def depotJoinsWrong : ChangeSpec := { name := "depotJoins", fn := fun _ => fun
  | [d1, d2] => { results := [.lit (.bool false)], args := [d1, d2] }
  | _ => none }
def DepotJoinsWrongFalsely : Prop := depotJoinsRow.holds Try.pinned (OpenSpec.ofChange depotJoinsWrong)

/-- 'quernlaw01.WordStores': WHATEVER THE INPUT: true; the input reads as it did. -/
def wordStoresSpec : ChangeSpec := { name := "wordStores", fn := fun _ => fun
  | [d1, d2] => { results := [.lit (.bool true)], args := [d1, d2] }
  | _ => none }
def wordStoresRow : OpenClaim := { program := "ythnnpkkmfalgkaa", sum := "943663656f5e45dcdeb851562df30e73d405bf26c5b83acb56d5f61f72ba7c75", func := "quern/quernlaw01.WordStores", spec := "wordStores", apart := false }
def WordStoresSaid : Prop := wordStoresRow.holds Try.pinned (OpenSpec.ofChange wordStoresSpec)

/-- ITS FALSE NEIGHBOUR: 'it returns false'. Refute it at one input. -/
def wordStoresWrong : ChangeSpec := { name := "wordStores", fn := fun _ => fun
  | [d1, d2] => { results := [.lit (.bool false)], args := [d1, d2] }
  | _ => none }
def WordStoresWrongFalsely : Prop := wordStoresRow.holds Try.pinned (OpenSpec.ofChange wordStoresWrong)

/-- 'quernlaw21.PassNames': WHATEVER THE INPUT: true; the input reads as it did. -/
def passNamesSpec : ChangeSpec := { name := "passNames", fn := fun _ => fun
  | [] => { results := [.lit (.bool true)], args := [] }
  | _ => none }
def passNamesRow : OpenClaim := { program := "ythnnpkkmfalgkaa", sum := "943663656f5e45dcdeb851562df30e73d405bf26c5b83acb56d5f61f72ba7c75", func := "quern/quernlaw21.PassNames", spec := "passNames", apart := false }
def PassNamesSaid : Prop := passNamesRow.holds Try.pinned (OpenSpec.ofChange passNamesSpec)

/-- ITS FALSE NEIGHBOUR: 'it returns false'. Refute it at one input. -/
def passNamesWrong : ChangeSpec := { name := "passNames", fn := fun _ => fun
  | [] => { results := [.lit (.bool false)], args := [] }
  | _ => none }
def PassNamesWrongFalsely : Prop := passNamesRow.holds Try.pinned (OpenSpec.ofChange passNamesWrong)

/-- 'quernlaw01.WordLoads': WHATEVER THE INPUT: true; the input reads as it did. -/
def wordLoadsSpec : ChangeSpec := { name := "wordLoads", fn := fun _ => fun
  | [d1, d2] => { results := [.lit (.bool true)], args := [d1, d2] }
  | _ => none }
def wordLoadsRow : OpenClaim := { program := "ythnnpkkmfalgkaa", sum := "943663656f5e45dcdeb851562df30e73d405bf26c5b83acb56d5f61f72ba7c75", func := "quern/quernlaw01.WordLoads", spec := "wordLoads", apart := false }
def WordLoadsSaid : Prop := wordLoadsRow.holds Try.pinned (OpenSpec.ofChange wordLoadsSpec)

/-- ITS FALSE NEIGHBOUR: 'it returns false'. Refute it at one input. -/
def wordLoadsWrong : ChangeSpec := { name := "wordLoads", fn := fun _ => fun
  | [d1, d2] => { results := [.lit (.bool false)], args := [d1, d2] }
  | _ => none }
def WordLoadsWrongFalsely : Prop := wordLoadsRow.holds Try.pinned (OpenSpec.ofChange wordLoadsWrong)

/-- 'quernlaw06.MacUnrows': WHATEVER THE INPUT: true; the input reads as it did. -/
def macUnrowsSpec : ChangeSpec := { name := "macUnrows", fn := fun _ => fun
  | [d] => { results := [.lit (.bool true)], args := [d] }
  | _ => none }
def macUnrowsRow : OpenClaim := { program := "ythnnpkkmfalgkaa", sum := "943663656f5e45dcdeb851562df30e73d405bf26c5b83acb56d5f61f72ba7c75", func := "quern/quernlaw06.MacUnrows", spec := "macUnrows", apart := false }
def MacUnrowsSaid : Prop := macUnrowsRow.holds Try.pinned (OpenSpec.ofChange macUnrowsSpec)

/-- ITS FALSE NEIGHBOUR: 'it returns false'. Refute it at one input. -/
def macUnrowsWrong : ChangeSpec := { name := "macUnrows", fn := fun _ => fun
  | [d] => { results := [.lit (.bool false)], args := [d] }
  | _ => none }
def MacUnrowsWrongFalsely : Prop := macUnrowsRow.holds Try.pinned (OpenSpec.ofChange macUnrowsWrong)

/-- 'quernlaw01.WordTurns': WHATEVER THE INPUT: true; the input reads as it did. -/
def wordTurnsSpec : ChangeSpec := { name := "wordTurns", fn := fun _ => fun
  | [d1, d2, d3] => { results := [.lit (.bool true)], args := [d1, d2, d3] }
  | _ => none }
def wordTurnsRow : OpenClaim := { program := "ythnnpkkmfalgkaa", sum := "943663656f5e45dcdeb851562df30e73d405bf26c5b83acb56d5f61f72ba7c75", func := "quern/quernlaw01.WordTurns", spec := "wordTurns", apart := false }
def WordTurnsSaid : Prop := wordTurnsRow.holds Try.pinned (OpenSpec.ofChange wordTurnsSpec)

/-- ITS FALSE NEIGHBOUR: 'it returns false'. Refute it at one input. -/
def wordTurnsWrong : ChangeSpec := { name := "wordTurns", fn := fun _ => fun
  | [d1, d2, d3] => { results := [.lit (.bool false)], args := [d1, d2, d3] }
  | _ => none }
def WordTurnsWrongFalsely : Prop := wordTurnsRow.holds Try.pinned (OpenSpec.ofChange wordTurnsWrong)

/-- 'quernlaw01.WordHex': WHATEVER THE INPUT: true; the input reads as it did. -/
def wordHexSpec : ChangeSpec := { name := "wordHex", fn := fun _ => fun
  | [d1, d2] => { results := [.lit (.bool true)], args := [d1, d2] }
  | _ => none }
def wordHexRow : OpenClaim := { program := "ythnnpkkmfalgkaa", sum := "943663656f5e45dcdeb851562df30e73d405bf26c5b83acb56d5f61f72ba7c75", func := "quern/quernlaw01.WordHex", spec := "wordHex", apart := false }
def WordHexSaid : Prop := wordHexRow.holds Try.pinned (OpenSpec.ofChange wordHexSpec)

/-- ITS FALSE NEIGHBOUR: 'it returns false'. Refute it at one input. -/
def wordHexWrong : ChangeSpec := { name := "wordHex", fn := fun _ => fun
  | [d1, d2] => { results := [.lit (.bool false)], args := [d1, d2] }
  | _ => none }
def WordHexWrongFalsely : Prop := wordHexRow.holds Try.pinned (OpenSpec.ofChange wordHexWrong)

/- THE SECOND FORM. 'bulk': how many values and letters a reading holds, each counted each time it is reached (what is shared counts as often as it is met; a slice's spare places count too). A statement '..UptoSaid' is the law's where the arguments, and the package variables that the reading takes, are together of bulk at most 1048576: NARROWER than '..Said'. Prove '..Said' where nothing that the law and all that it calls make is longer than what came in: it says more and counts as full. Else prove '..UptoSaid'. A law counts once. -/
mutual
def uptoBulk {H : Type} : DataW H → Nat
  | .lit (.string bytes) => bytes.length + 1
  | .lit _ => 1
  | .nil => 1
  | .ptr d => uptoBulk d + 1
  | .slice elems spare => uptoBulkAll elems + uptoBulkAll spare + 1
  | .agg parts => uptoBulkAll parts + 1
  | .iface _ d => uptoBulk d + 1
  | .map entries => uptoBulkEntries entries + 1
  | .held _ => 1
def uptoBulkAll {H : Type} : List (DataW H) → Nat
  | [] => 0
  | d :: r => uptoBulk d + uptoBulkAll r
def uptoBulkEntries {H : Type} : List (Lit × DataW H) → Nat
  | [] => 0
  | x :: r => uptoBulkEntry x + uptoBulkEntries r
def uptoBulkEntry {H : Type} : Lit × DataW H → Nat
  | (.string bytes, d) => bytes.length + uptoBulk d + 1
  | (_, d) => uptoBulk d + 1
 end
def uptoSmall : (H : Type) → List (DataW H) → Bool := fun _ ds => decide (uptoBulkAll ds ≤ 1048576)
def OpenSpec.upto (s : _root_.Go.ChangeSpec) : _root_.Go.OpenSpec := { _root_.Go.OpenSpec.ofChange s with cond := some uptoSmall }

/-- 'quernlaw01.WordSame', WHERE WHAT IT READS IS OF BULK AT MOST 1048576: true; the input reads as it did. -/
def wordSameUptoRow : OpenClaim := { program := "ythnnpkkmfalgkaa", sum := "943663656f5e45dcdeb851562df30e73d405bf26c5b83acb56d5f61f72ba7c75", func := "quern/quernlaw01.WordSame", spec := "wordSame", apart := false, narrowed := true }
def WordSameUptoSaid : Prop := wordSameUptoRow.holds Try.pinned (OpenSpec.upto wordSameSpec)

/-- 'quernlaw27.DepotNames', WHERE WHAT IT READS IS OF BULK AT MOST 1048576: true; the input reads as it did. -/
def depotNamesUptoRow : OpenClaim := { program := "ythnnpkkmfalgkaa", sum := "943663656f5e45dcdeb851562df30e73d405bf26c5b83acb56d5f61f72ba7c75", func := "quern/quernlaw27.DepotNames", spec := "depotNames", apart := false, narrowed := true }
def DepotNamesUptoSaid : Prop := depotNamesUptoRow.holds Try.pinned (OpenSpec.upto depotNamesSpec)

/-- 'quernlaw01.WordBack', WHERE WHAT IT READS IS OF BULK AT MOST 1048576: true; the input reads as it did. -/
def wordBackUptoRow : OpenClaim := { program := "ythnnpkkmfalgkaa", sum := "943663656f5e45dcdeb851562df30e73d405bf26c5b83acb56d5f61f72ba7c75", func := "quern/quernlaw01.WordBack", spec := "wordBack", apart := false, narrowed := true }
def WordBackUptoSaid : Prop := wordBackUptoRow.holds Try.pinned (OpenSpec.upto wordBackSpec)

/-- 'quernlaw01.WordSums', WHERE WHAT IT READS IS OF BULK AT MOST 1048576: true; the input reads as it did. -/
def wordSumsUptoRow : OpenClaim := { program := "ythnnpkkmfalgkaa", sum := "943663656f5e45dcdeb851562df30e73d405bf26c5b83acb56d5f61f72ba7c75", func := "quern/quernlaw01.WordSums", spec := "wordSums", inPlace := ["math/bits.Add64"], apart := false, narrowed := true }
def WordSumsUptoSaid : Prop := wordSumsUptoRow.holds Try.pinned (OpenSpec.upto wordSumsSpec)

/-- 'quernlaw27.DepotChunks', WHERE WHAT IT READS IS OF BULK AT MOST 1048576: true; the input reads as it did. -/
def depotChunksUptoRow : OpenClaim := { program := "ythnnpkkmfalgkaa", sum := "943663656f5e45dcdeb851562df30e73d405bf26c5b83acb56d5f61f72ba7c75", func := "quern/quernlaw27.DepotChunks", spec := "depotChunks", apart := false, narrowed := true }
def DepotChunksUptoSaid : Prop := depotChunksUptoRow.holds Try.pinned (OpenSpec.upto depotChunksSpec)

/-- 'quernlaw27.DepotJoins', WHERE WHAT IT READS IS OF BULK AT MOST 1048576: true; the input reads as it did. -/
def depotJoinsUptoRow : OpenClaim := { program := "ythnnpkkmfalgkaa", sum := "943663656f5e45dcdeb851562df30e73d405bf26c5b83acb56d5f61f72ba7c75", func := "quern/quernlaw27.DepotJoins", spec := "depotJoins", apart := false, narrowed := true }
def DepotJoinsUptoSaid : Prop := depotJoinsUptoRow.holds Try.pinned (OpenSpec.upto depotJoinsSpec)

/-- 'quernlaw01.WordStores', WHERE WHAT IT READS IS OF BULK AT MOST 1048576: true; the input reads as it did. -/
def wordStoresUptoRow : OpenClaim := { program := "ythnnpkkmfalgkaa", sum := "943663656f5e45dcdeb851562df30e73d405bf26c5b83acb56d5f61f72ba7c75", func := "quern/quernlaw01.WordStores", spec := "wordStores", apart := false, narrowed := true }
def WordStoresUptoSaid : Prop := wordStoresUptoRow.holds Try.pinned (OpenSpec.upto wordStoresSpec)

/-- 'quernlaw21.PassNames', WHERE WHAT IT READS IS OF BULK AT MOST 1048576: true; the input reads as it did. -/
def passNamesUptoRow : OpenClaim := { program := "ythnnpkkmfalgkaa", sum := "943663656f5e45dcdeb851562df30e73d405bf26c5b83acb56d5f61f72ba7c75", func := "quern/quernlaw21.PassNames", spec := "passNames", apart := false, narrowed := true }
def PassNamesUptoSaid : Prop := passNamesUptoRow.holds Try.pinned (OpenSpec.upto passNamesSpec)

/-- 'quernlaw01.WordLoads', WHERE WHAT IT READS IS OF BULK AT MOST 1048576: true; the input reads as it did. -/
def wordLoadsUptoRow : OpenClaim := { program := "ythnnpkkmfalgkaa", sum := "943663656f5e45dcdeb851562df30e73d405bf26c5b83acb56d5f61f72ba7c75", func := "quern/quernlaw01.WordLoads", spec := "wordLoads", apart := false, narrowed := true }
def WordLoadsUptoSaid : Prop := wordLoadsUptoRow.holds Try.pinned (OpenSpec.upto wordLoadsSpec)

/-- 'quernlaw06.MacUnrows', WHERE WHAT IT READS IS OF BULK AT MOST 1048576: true; the input reads as it did. -/
def macUnrowsUptoRow : OpenClaim := { program := "ythnnpkkmfalgkaa", sum := "943663656f5e45dcdeb851562df30e73d405bf26c5b83acb56d5f61f72ba7c75", func := "quern/quernlaw06.MacUnrows", spec := "macUnrows", apart := false, narrowed := true }
def MacUnrowsUptoSaid : Prop := macUnrowsUptoRow.holds Try.pinned (OpenSpec.upto macUnrowsSpec)

/-- 'quernlaw01.WordTurns', WHERE WHAT IT READS IS OF BULK AT MOST 1048576: true; the input reads as it did. -/
def wordTurnsUptoRow : OpenClaim := { program := "ythnnpkkmfalgkaa", sum := "943663656f5e45dcdeb851562df30e73d405bf26c5b83acb56d5f61f72ba7c75", func := "quern/quernlaw01.WordTurns", spec := "wordTurns", apart := false, narrowed := true }
def WordTurnsUptoSaid : Prop := wordTurnsUptoRow.holds Try.pinned (OpenSpec.upto wordTurnsSpec)

/-- 'quernlaw01.WordHex', WHERE WHAT IT READS IS OF BULK AT MOST 1048576: true; the input reads as it did. -/
def wordHexUptoRow : OpenClaim := { program := "ythnnpkkmfalgkaa", sum := "943663656f5e45dcdeb851562df30e73d405bf26c5b83acb56d5f61f72ba7c75", func := "quern/quernlaw01.WordHex", spec := "wordHex", apart := false, narrowed := true }
def WordHexUptoSaid : Prop := wordHexUptoRow.holds Try.pinned (OpenSpec.upto wordHexSpec)

end Rows
end Go.Proofs.Ythnnpkkmfalgkaa
