/-
  No cell of these rows narrows 'for every input' (looked for: loops, veiled, ifaces, maps, wideKeys, modest, calm, conditions, laid).
  DERIVED. THE GIVEN ROWS OF THIS SEAT. 11 by the template 'for every input the law returns true; each argument reads behind the call as it read before'; 0 by the template 'total and deterministic' (their statements: YtenfdhhjafddlaaTotals.lean).
  GIVEN WITH THE SEED: the statements are not yours to turn. If you find one false, say at which input.
  Laid BY PROGRAM, IN A SANDBOX (cutbox-rows.mjs): the forced cells as the released guide's own fill.sh prints them over the translation e8bb1e019b71bf8a… (all of the seat's roots in one cut). By AI agents, Wed Nov 11 2026. No macro, syntax, notation, axiom, sorry.
-/
import Derived.Test.YtenfdhhjafddlaaChecked
import GoSem.Claim
import GoSem.ClaimJoined
import GoSem.ClaimMapViews
import Derived.JoinedTies
import Derived.KernelRfl
namespace Go.Proofs.Ytenfdhhjafddlaa
/- THE CELL 'sum', in the pinned program and in every row, IS THE sha256 OF THE DUMP (.gsa) THAT YtenfdhhjafddlaaProg.lean LOADS. Nothing in Lean hashes anything: it is a label: what it is worth is what the hold of that sum in a sandbox is worth. -/
noncomputable def Try.pinned : Pinned := { name := "ytenfdhhjafddlaa", sum := "e8bb1e019b71bf8a69cb7ba1b693c12cafe091a38a1bc4bb085f250d90172a03", checked := Try.checked }
namespace Rows
def none {H : Type} : Left H := { results := [], args := [] }

/-- 'quernlaw01.WordSame': WHATEVER THE INPUT: true; the input reads as it did. -/
def wordSameSpec : ChangeSpec := { name := "wordSame", fn := fun _ => fun
  | [d1, d2, d3, d4] => { results := [.lit (.bool true)], args := [d1, d2, d3, d4] }
  | _ => none }
def wordSameRow : OpenClaim := { program := "ytenfdhhjafddlaa", sum := "e8bb1e019b71bf8a69cb7ba1b693c12cafe091a38a1bc4bb085f250d90172a03", func := "quern/quernlaw01.WordSame", spec := "wordSame", apart := false }
def WordSameSaid : Prop := wordSameRow.holds Try.pinned (OpenSpec.ofChange wordSameSpec)

/-- ITS FALSE NEIGHBOUR: 'it returns false'. Refute it at one input. -/
def wordSameWrong : ChangeSpec := { name := "wordSame", fn := fun _ => fun
  | [d1, d2, d3, d4] => { results := [.lit (.bool false)], args := [d1, d2, d3, d4] }
  | _ => none }
def WordSameWrongFalsely : Prop := wordSameRow.holds Try.pinned (OpenSpec.ofChange wordSameWrong)

/-- 'quernlaw01.WordBack': WHATEVER THE INPUT: true; the input reads as it did. -/
def wordBackSpec : ChangeSpec := { name := "wordBack", fn := fun _ => fun
  | [d1, d2, d3, d4] => { results := [.lit (.bool true)], args := [d1, d2, d3, d4] }
  | _ => none }
def wordBackRow : OpenClaim := { program := "ytenfdhhjafddlaa", sum := "e8bb1e019b71bf8a69cb7ba1b693c12cafe091a38a1bc4bb085f250d90172a03", func := "quern/quernlaw01.WordBack", spec := "wordBack", apart := false }
def WordBackSaid : Prop := wordBackRow.holds Try.pinned (OpenSpec.ofChange wordBackSpec)

/-- ITS FALSE NEIGHBOUR: 'it returns false'. Refute it at one input. -/
def wordBackWrong : ChangeSpec := { name := "wordBack", fn := fun _ => fun
  | [d1, d2, d3, d4] => { results := [.lit (.bool false)], args := [d1, d2, d3, d4] }
  | _ => none }
def WordBackWrongFalsely : Prop := wordBackRow.holds Try.pinned (OpenSpec.ofChange wordBackWrong)

/-- 'quernlaw01.WordSums': WHATEVER THE INPUT: true; the input reads as it did. -/
def wordSumsSpec : ChangeSpec := { name := "wordSums", fn := fun _ => fun
  | [d1, d2, d3] => { results := [.lit (.bool true)], args := [d1, d2, d3] }
  | _ => none }
def wordSumsRow : OpenClaim := { program := "ytenfdhhjafddlaa", sum := "e8bb1e019b71bf8a69cb7ba1b693c12cafe091a38a1bc4bb085f250d90172a03", func := "quern/quernlaw01.WordSums", spec := "wordSums", inPlace := ["math/bits.Add64"], apart := false }
def WordSumsSaid : Prop := wordSumsRow.holds Try.pinned (OpenSpec.ofChange wordSumsSpec)

/-- ITS FALSE NEIGHBOUR: 'it returns false'. Refute it at one input. -/
def wordSumsWrong : ChangeSpec := { name := "wordSums", fn := fun _ => fun
  | [d1, d2, d3] => { results := [.lit (.bool false)], args := [d1, d2, d3] }
  | _ => none }
def WordSumsWrongFalsely : Prop := wordSumsRow.holds Try.pinned (OpenSpec.ofChange wordSumsWrong)

/-- 'quernlaw01.WordStores': WHATEVER THE INPUT: true; the input reads as it did. -/
def wordStoresSpec : ChangeSpec := { name := "wordStores", fn := fun _ => fun
  | [d1, d2] => { results := [.lit (.bool true)], args := [d1, d2] }
  | _ => none }
def wordStoresRow : OpenClaim := { program := "ytenfdhhjafddlaa", sum := "e8bb1e019b71bf8a69cb7ba1b693c12cafe091a38a1bc4bb085f250d90172a03", func := "quern/quernlaw01.WordStores", spec := "wordStores", apart := false }
def WordStoresSaid : Prop := wordStoresRow.holds Try.pinned (OpenSpec.ofChange wordStoresSpec)

/-- ITS FALSE NEIGHBOUR: 'it returns false'. Refute it at one input. -/
def wordStoresWrong : ChangeSpec := { name := "wordStores", fn := fun _ => fun
  | [d1, d2] => { results := [.lit (.bool false)], args := [d1, d2] }
  | _ => none }
def WordStoresWrongFalsely : Prop := wordStoresRow.holds Try.pinned (OpenSpec.ofChange wordStoresWrong)

/-- 'quernlaw01.WordLoads': WHATEVER THE INPUT: true; the input reads as it did. -/
def wordLoadsSpec : ChangeSpec := { name := "wordLoads", fn := fun _ => fun
  | [d1, d2] => { results := [.lit (.bool true)], args := [d1, d2] }
  | _ => none }
def wordLoadsRow : OpenClaim := { program := "ytenfdhhjafddlaa", sum := "e8bb1e019b71bf8a69cb7ba1b693c12cafe091a38a1bc4bb085f250d90172a03", func := "quern/quernlaw01.WordLoads", spec := "wordLoads", apart := false }
def WordLoadsSaid : Prop := wordLoadsRow.holds Try.pinned (OpenSpec.ofChange wordLoadsSpec)

/-- ITS FALSE NEIGHBOUR: 'it returns false'. Refute it at one input. -/
def wordLoadsWrong : ChangeSpec := { name := "wordLoads", fn := fun _ => fun
  | [d1, d2] => { results := [.lit (.bool false)], args := [d1, d2] }
  | _ => none }
def WordLoadsWrongFalsely : Prop := wordLoadsRow.holds Try.pinned (OpenSpec.ofChange wordLoadsWrong)

/-- 'quernlaw01.WordTurns': WHATEVER THE INPUT: true; the input reads as it did. -/
def wordTurnsSpec : ChangeSpec := { name := "wordTurns", fn := fun _ => fun
  | [d1, d2, d3] => { results := [.lit (.bool true)], args := [d1, d2, d3] }
  | _ => none }
def wordTurnsRow : OpenClaim := { program := "ytenfdhhjafddlaa", sum := "e8bb1e019b71bf8a69cb7ba1b693c12cafe091a38a1bc4bb085f250d90172a03", func := "quern/quernlaw01.WordTurns", spec := "wordTurns", apart := false }
def WordTurnsSaid : Prop := wordTurnsRow.holds Try.pinned (OpenSpec.ofChange wordTurnsSpec)

/-- ITS FALSE NEIGHBOUR: 'it returns false'. Refute it at one input. -/
def wordTurnsWrong : ChangeSpec := { name := "wordTurns", fn := fun _ => fun
  | [d1, d2, d3] => { results := [.lit (.bool false)], args := [d1, d2, d3] }
  | _ => none }
def WordTurnsWrongFalsely : Prop := wordTurnsRow.holds Try.pinned (OpenSpec.ofChange wordTurnsWrong)

/-- 'quernlaw01.WordHex': WHATEVER THE INPUT: true; the input reads as it did. -/
def wordHexSpec : ChangeSpec := { name := "wordHex", fn := fun _ => fun
  | [d1, d2] => { results := [.lit (.bool true)], args := [d1, d2] }
  | _ => none }
def wordHexRow : OpenClaim := { program := "ytenfdhhjafddlaa", sum := "e8bb1e019b71bf8a69cb7ba1b693c12cafe091a38a1bc4bb085f250d90172a03", func := "quern/quernlaw01.WordHex", spec := "wordHex", apart := false }
def WordHexSaid : Prop := wordHexRow.holds Try.pinned (OpenSpec.ofChange wordHexSpec)

/-- ITS FALSE NEIGHBOUR: 'it returns false'. Refute it at one input. -/
def wordHexWrong : ChangeSpec := { name := "wordHex", fn := fun _ => fun
  | [d1, d2] => { results := [.lit (.bool false)], args := [d1, d2] }
  | _ => none }
def WordHexWrongFalsely : Prop := wordHexRow.holds Try.pinned (OpenSpec.ofChange wordHexWrong)

/-- 'quernlaw01.WordCounts': WHATEVER THE INPUT: true; the input reads as it did. -/
def wordCountsSpec : ChangeSpec := { name := "wordCounts", fn := fun _ => fun
  | [d1, d2] => { results := [.lit (.bool true)], args := [d1, d2] }
  | _ => none }
def wordCountsRow : OpenClaim := { program := "ytenfdhhjafddlaa", sum := "e8bb1e019b71bf8a69cb7ba1b693c12cafe091a38a1bc4bb085f250d90172a03", func := "quern/quernlaw01.WordCounts", spec := "wordCounts", inPlace := ["math/bits.Add64"], apart := false }
def WordCountsSaid : Prop := wordCountsRow.holds Try.pinned (OpenSpec.ofChange wordCountsSpec)

/-- ITS FALSE NEIGHBOUR: 'it returns false'. Refute it at one input. -/
def wordCountsWrong : ChangeSpec := { name := "wordCounts", fn := fun _ => fun
  | [d1, d2] => { results := [.lit (.bool false)], args := [d1, d2] }
  | _ => none }
def WordCountsWrongFalsely : Prop := wordCountsRow.holds Try.pinned (OpenSpec.ofChange wordCountsWrong)

/-- 'quernlaw01.WordCuts': WHATEVER THE INPUT: true; the input reads as it did. -/
def wordCutsSpec : ChangeSpec := { name := "wordCuts", fn := fun _ => fun
  | [d1, d2] => { results := [.lit (.bool true)], args := [d1, d2] }
  | _ => none }
def wordCutsRow : OpenClaim := { program := "ytenfdhhjafddlaa", sum := "e8bb1e019b71bf8a69cb7ba1b693c12cafe091a38a1bc4bb085f250d90172a03", func := "quern/quernlaw01.WordCuts", spec := "wordCuts", apart := false }
def WordCutsSaid : Prop := wordCutsRow.holds Try.pinned (OpenSpec.ofChange wordCutsSpec)

/-- ITS FALSE NEIGHBOUR: 'it returns false'. Refute it at one input. -/
def wordCutsWrong : ChangeSpec := { name := "wordCuts", fn := fun _ => fun
  | [d1, d2] => { results := [.lit (.bool false)], args := [d1, d2] }
  | _ => none }
def WordCutsWrongFalsely : Prop := wordCutsRow.holds Try.pinned (OpenSpec.ofChange wordCutsWrong)

/-- 'quernlaw01.WordBase': WHATEVER THE INPUT: true; the input reads as it did. -/
def wordBaseSpec : ChangeSpec := { name := "wordBase", fn := fun _ => fun
  | [d1, d2] => { results := [.lit (.bool true)], args := [d1, d2] }
  | _ => none }
def wordBaseRow : OpenClaim := { program := "ytenfdhhjafddlaa", sum := "e8bb1e019b71bf8a69cb7ba1b693c12cafe091a38a1bc4bb085f250d90172a03", func := "quern/quernlaw01.WordBase", spec := "wordBase", apart := false }
def WordBaseSaid : Prop := wordBaseRow.holds Try.pinned (OpenSpec.ofChange wordBaseSpec)

/-- ITS FALSE NEIGHBOUR: 'it returns false'. Refute it at one input. -/
def wordBaseWrong : ChangeSpec := { name := "wordBase", fn := fun _ => fun
  | [d1, d2] => { results := [.lit (.bool false)], args := [d1, d2] }
  | _ => none }
def WordBaseWrongFalsely : Prop := wordBaseRow.holds Try.pinned (OpenSpec.ofChange wordBaseWrong)

/-- 'quernlaw01.WordThere': WHATEVER THE INPUT: true; the input reads as it did. -/
def wordThereSpec : ChangeSpec := { name := "wordThere", fn := fun _ => fun
  | [d1, d2] => { results := [.lit (.bool true)], args := [d1, d2] }
  | _ => none }
def wordThereRow : OpenClaim := { program := "ytenfdhhjafddlaa", sum := "e8bb1e019b71bf8a69cb7ba1b693c12cafe091a38a1bc4bb085f250d90172a03", func := "quern/quernlaw01.WordThere", spec := "wordThere", apart := false }
def WordThereSaid : Prop := wordThereRow.holds Try.pinned (OpenSpec.ofChange wordThereSpec)

/-- ITS FALSE NEIGHBOUR: 'it returns false'. Refute it at one input. -/
def wordThereWrong : ChangeSpec := { name := "wordThere", fn := fun _ => fun
  | [d1, d2] => { results := [.lit (.bool false)], args := [d1, d2] }
  | _ => none }
def WordThereWrongFalsely : Prop := wordThereRow.holds Try.pinned (OpenSpec.ofChange wordThereWrong)

/- THE SECOND FORM. 'bulk': how many values and letters a reading holds, each counted each time it is reached (what is shared counts as often as it is met; a slice's spare places count too). A statement '..UptoSaid' is the law's where the arguments, and the package variables that the reading takes, are together of bulk at most 1048576: NARROWER than '..Said'. Prove '..Said' where nothing that the law and all that it calls make is longer than what came in: it says more and counts as full. Else prove '..UptoSaid'. A law counts once. -/
mutual
def uptoBulk {H : Type} : DataW H → Nat
  | .lit (.string bytes) => bytes.length + 1
  | .lit _ => 1
  | .nil => 1
  | .ptr d => uptoBulk d + 1
  | .slice elems spare => uptoBulkAll elems + uptoBulkAll spare + 1
  | .agg parts => uptoBulkAll parts + 1
  | .iface _ d => uptoBulk d + 1
  | .map entries => uptoBulkEntries entries + 1
  | .held _ => 1
def uptoBulkAll {H : Type} : List (DataW H) → Nat
  | [] => 0
  | d :: r => uptoBulk d + uptoBulkAll r
def uptoBulkEntries {H : Type} : List (Lit × DataW H) → Nat
  | [] => 0
  | x :: r => uptoBulkEntry x + uptoBulkEntries r
def uptoBulkEntry {H : Type} : Lit × DataW H → Nat
  | (.string bytes, d) => bytes.length + uptoBulk d + 1
  | (_, d) => uptoBulk d + 1
 end
def uptoSmall : (H : Type) → List (DataW H) → Bool := fun _ ds => decide (uptoBulkAll ds ≤ 1048576)
def OpenSpec.upto (s : _root_.Go.ChangeSpec) : _root_.Go.OpenSpec := { _root_.Go.OpenSpec.ofChange s with cond := some uptoSmall }

/-- 'quernlaw01.WordSame', WHERE WHAT IT READS IS OF BULK AT MOST 1048576: true; the input reads as it did. -/
def wordSameUptoRow : OpenClaim := { program := "ytenfdhhjafddlaa", sum := "e8bb1e019b71bf8a69cb7ba1b693c12cafe091a38a1bc4bb085f250d90172a03", func := "quern/quernlaw01.WordSame", spec := "wordSame", apart := false, narrowed := true }
def WordSameUptoSaid : Prop := wordSameUptoRow.holds Try.pinned (OpenSpec.upto wordSameSpec)

/-- 'quernlaw01.WordBack', WHERE WHAT IT READS IS OF BULK AT MOST 1048576: true; the input reads as it did. -/
def wordBackUptoRow : OpenClaim := { program := "ytenfdhhjafddlaa", sum := "e8bb1e019b71bf8a69cb7ba1b693c12cafe091a38a1bc4bb085f250d90172a03", func := "quern/quernlaw01.WordBack", spec := "wordBack", apart := false, narrowed := true }
def WordBackUptoSaid : Prop := wordBackUptoRow.holds Try.pinned (OpenSpec.upto wordBackSpec)

/-- 'quernlaw01.WordSums', WHERE WHAT IT READS IS OF BULK AT MOST 1048576: true; the input reads as it did. -/
def wordSumsUptoRow : OpenClaim := { program := "ytenfdhhjafddlaa", sum := "e8bb1e019b71bf8a69cb7ba1b693c12cafe091a38a1bc4bb085f250d90172a03", func := "quern/quernlaw01.WordSums", spec := "wordSums", inPlace := ["math/bits.Add64"], apart := false, narrowed := true }
def WordSumsUptoSaid : Prop := wordSumsUptoRow.holds Try.pinned (OpenSpec.upto wordSumsSpec)

/-- 'quernlaw01.WordStores', WHERE WHAT IT READS IS OF BULK AT MOST 1048576: true; the input reads as it did. -/
def wordStoresUptoRow : OpenClaim := { program := "ytenfdhhjafddlaa", sum := "e8bb1e019b71bf8a69cb7ba1b693c12cafe091a38a1bc4bb085f250d90172a03", func := "quern/quernlaw01.WordStores", spec := "wordStores", apart := false, narrowed := true }
def WordStoresUptoSaid : Prop := wordStoresUptoRow.holds Try.pinned (OpenSpec.upto wordStoresSpec)

/-- 'quernlaw01.WordLoads', WHERE WHAT IT READS IS OF BULK AT MOST 1048576: true; the input reads as it did. -/
def wordLoadsUptoRow : OpenClaim := { program := "ytenfdhhjafddlaa", sum := "e8bb1e019b71bf8a69cb7ba1b693c12cafe091a38a1bc4bb085f250d90172a03", func := "quern/quernlaw01.WordLoads", spec := "wordLoads", apart := false, narrowed := true }
def WordLoadsUptoSaid : Prop := wordLoadsUptoRow.holds Try.pinned (OpenSpec.upto wordLoadsSpec)

/-- 'quernlaw01.WordTurns', WHERE WHAT IT READS IS OF BULK AT MOST 1048576: true; the input reads as it did. -/
def wordTurnsUptoRow : OpenClaim := { program := "ytenfdhhjafddlaa", sum := "e8bb1e019b71bf8a69cb7ba1b693c12cafe091a38a1bc4bb085f250d90172a03", func := "quern/quernlaw01.WordTurns", spec := "wordTurns", apart := false, narrowed := true }
def WordTurnsUptoSaid : Prop := wordTurnsUptoRow.holds Try.pinned (OpenSpec.upto wordTurnsSpec)

/-- 'quernlaw01.WordHex', WHERE WHAT IT READS IS OF BULK AT MOST 1048576: true; the input reads as it did. -/
def wordHexUptoRow : OpenClaim := { program := "ytenfdhhjafddlaa", sum := "e8bb1e019b71bf8a69cb7ba1b693c12cafe091a38a1bc4bb085f250d90172a03", func := "quern/quernlaw01.WordHex", spec := "wordHex", apart := false, narrowed := true }
def WordHexUptoSaid : Prop := wordHexUptoRow.holds Try.pinned (OpenSpec.upto wordHexSpec)

/-- 'quernlaw01.WordCounts', WHERE WHAT IT READS IS OF BULK AT MOST 1048576: true; the input reads as it did. -/
def wordCountsUptoRow : OpenClaim := { program := "ytenfdhhjafddlaa", sum := "e8bb1e019b71bf8a69cb7ba1b693c12cafe091a38a1bc4bb085f250d90172a03", func := "quern/quernlaw01.WordCounts", spec := "wordCounts", inPlace := ["math/bits.Add64"], apart := false, narrowed := true }
def WordCountsUptoSaid : Prop := wordCountsUptoRow.holds Try.pinned (OpenSpec.upto wordCountsSpec)

/-- 'quernlaw01.WordCuts', WHERE WHAT IT READS IS OF BULK AT MOST 1048576: true; the input reads as it did. -/
def wordCutsUptoRow : OpenClaim := { program := "ytenfdhhjafddlaa", sum := "e8bb1e019b71bf8a69cb7ba1b693c12cafe091a38a1bc4bb085f250d90172a03", func := "quern/quernlaw01.WordCuts", spec := "wordCuts", apart := false, narrowed := true }
def WordCutsUptoSaid : Prop := wordCutsUptoRow.holds Try.pinned (OpenSpec.upto wordCutsSpec)

/-- 'quernlaw01.WordBase', WHERE WHAT IT READS IS OF BULK AT MOST 1048576: true; the input reads as it did. -/
def wordBaseUptoRow : OpenClaim := { program := "ytenfdhhjafddlaa", sum := "e8bb1e019b71bf8a69cb7ba1b693c12cafe091a38a1bc4bb085f250d90172a03", func := "quern/quernlaw01.WordBase", spec := "wordBase", apart := false, narrowed := true }
def WordBaseUptoSaid : Prop := wordBaseUptoRow.holds Try.pinned (OpenSpec.upto wordBaseSpec)

/-- 'quernlaw01.WordThere', WHERE WHAT IT READS IS OF BULK AT MOST 1048576: true; the input reads as it did. -/
def wordThereUptoRow : OpenClaim := { program := "ytenfdhhjafddlaa", sum := "e8bb1e019b71bf8a69cb7ba1b693c12cafe091a38a1bc4bb085f250d90172a03", func := "quern/quernlaw01.WordThere", spec := "wordThere", apart := false, narrowed := true }
def WordThereUptoSaid : Prop := wordThereUptoRow.holds Try.pinned (OpenSpec.upto wordThereSpec)

end Rows
end Go.Proofs.Ytenfdhhjafddlaa
