/-
  No cell of these rows narrows 'for every input' (looked for: loops, veiled, ifaces, maps, wideKeys, modest, calm, conditions, laid).
  DERIVED. THE GIVEN ROWS OF THIS SEAT. 7 by the template 'for every input the law returns true; each argument reads behind the call as it read before'; 0 by the template 'total and deterministic' (their statements: YtmknbdnofogmdaaTotals.lean).
  GIVEN WITH THE SEED: the statements are not yours to turn. If you find one false, say at which input.
  Laid BY PROGRAM, IN A SANDBOX (cutbox-rows.mjs): the forced cells as the released guide's own fill.sh prints them over the translation a58368af8eb99b84… (all of the seat's roots in one cut). By AI agents, Wed Nov 11 2026. No macro, syntax, notation, axiom, sorry.
-/
import Derived.Test.YtmknbdnofogmdaaChecked
import GoSem.Claim
import GoSem.ClaimJoined
import GoSem.ClaimMapViews
import Derived.JoinedTies
import Derived.KernelRfl
namespace Go.Proofs.Ytmknbdnofogmdaa
/- THE CELL 'sum', in the pinned program and in every row, IS THE sha256 OF THE DUMP (.gsa) THAT YtmknbdnofogmdaaProg.lean LOADS. Nothing in Lean hashes anything: it is a label: what it is worth is what the hold of that sum in a sandbox is worth. -/
noncomputable def Try.pinned : Pinned := { name := "ytmknbdnofogmdaa", sum := "a58368af8eb99b840b476e62468ab2eb5a515f7ec334597444b66cd3def2a8a8", checked := Try.checked }
namespace Rows
def none {H : Type} : Left H := { results := [], args := [] }

/-- 'quernlaw06.MacUnrows': WHATEVER THE INPUT: true; the input reads as it did. -/
def macUnrowsSpec : ChangeSpec := { name := "macUnrows", fn := fun _ => fun
  | [d] => { results := [.lit (.bool true)], args := [d] }
  | _ => none }
def macUnrowsRow : OpenClaim := { program := "ytmknbdnofogmdaa", sum := "a58368af8eb99b840b476e62468ab2eb5a515f7ec334597444b66cd3def2a8a8", func := "quern/quernlaw06.MacUnrows", spec := "macUnrows", apart := false }
def MacUnrowsSaid : Prop := macUnrowsRow.holds Try.pinned (OpenSpec.ofChange macUnrowsSpec)

/-- ITS FALSE NEIGHBOUR: 'it returns false'. Refute it at one input. -/
def macUnrowsWrong : ChangeSpec := { name := "macUnrows", fn := fun _ => fun
  | [d] => { results := [.lit (.bool false)], args := [d] }
  | _ => none }
def MacUnrowsWrongFalsely : Prop := macUnrowsRow.holds Try.pinned (OpenSpec.ofChange macUnrowsWrong)

/-- 'quernlaw01.WordCuts': WHATEVER THE INPUT: true; the input reads as it did. -/
def wordCutsSpec : ChangeSpec := { name := "wordCuts", fn := fun _ => fun
  | [d1, d2] => { results := [.lit (.bool true)], args := [d1, d2] }
  | _ => none }
def wordCutsRow : OpenClaim := { program := "ytmknbdnofogmdaa", sum := "a58368af8eb99b840b476e62468ab2eb5a515f7ec334597444b66cd3def2a8a8", func := "quern/quernlaw01.WordCuts", spec := "wordCuts", apart := false }
def WordCutsSaid : Prop := wordCutsRow.holds Try.pinned (OpenSpec.ofChange wordCutsSpec)

/-- ITS FALSE NEIGHBOUR: 'it returns false'. Refute it at one input. -/
def wordCutsWrong : ChangeSpec := { name := "wordCuts", fn := fun _ => fun
  | [d1, d2] => { results := [.lit (.bool false)], args := [d1, d2] }
  | _ => none }
def WordCutsWrongFalsely : Prop := wordCutsRow.holds Try.pinned (OpenSpec.ofChange wordCutsWrong)

/-- 'quernlaw06.MacRows': WHATEVER THE INPUT: true; the input reads as it did. -/
def macRowsSpec : ChangeSpec := { name := "macRows", fn := fun _ => fun
  | [d1, d2] => { results := [.lit (.bool true)], args := [d1, d2] }
  | _ => none }
def macRowsRow : OpenClaim := { program := "ytmknbdnofogmdaa", sum := "a58368af8eb99b840b476e62468ab2eb5a515f7ec334597444b66cd3def2a8a8", func := "quern/quernlaw06.MacRows", spec := "macRows", unfollowed := true, recurses := true, apart := false }
def MacRowsSaid : Prop := macRowsRow.holds Try.pinned (OpenSpec.ofChange macRowsSpec)

/-- ITS FALSE NEIGHBOUR: 'it returns false'. Refute it at one input. -/
def macRowsWrong : ChangeSpec := { name := "macRows", fn := fun _ => fun
  | [d1, d2] => { results := [.lit (.bool false)], args := [d1, d2] }
  | _ => none }
def MacRowsWrongFalsely : Prop := macRowsRow.holds Try.pinned (OpenSpec.ofChange macRowsWrong)

/-- 'quernlaw06.MacTold': WHATEVER THE INPUT: true; the input reads as it did. -/
def macToldSpec : ChangeSpec := { name := "macTold", fn := fun _ => fun
  | [d1, d2] => { results := [.lit (.bool true)], args := [d1, d2] }
  | _ => none }
def macToldRow : OpenClaim := { program := "ytmknbdnofogmdaa", sum := "a58368af8eb99b840b476e62468ab2eb5a515f7ec334597444b66cd3def2a8a8", func := "quern/quernlaw06.MacTold", spec := "macTold", unfollowed := true, recurses := true, apart := false }
def MacToldSaid : Prop := macToldRow.holds Try.pinned (OpenSpec.ofChange macToldSpec)

/-- ITS FALSE NEIGHBOUR: 'it returns false'. Refute it at one input. -/
def macToldWrong : ChangeSpec := { name := "macTold", fn := fun _ => fun
  | [d1, d2] => { results := [.lit (.bool false)], args := [d1, d2] }
  | _ => none }
def MacToldWrongFalsely : Prop := macToldRow.holds Try.pinned (OpenSpec.ofChange macToldWrong)

/-- 'quernlaw06.MacWays': WHATEVER THE INPUT: true; the input reads as it did. -/
def macWaysSpec : ChangeSpec := { name := "macWays", fn := fun _ => fun
  | [d] => { results := [.lit (.bool true)], args := [d] }
  | _ => none }
def macWaysRow : OpenClaim := { program := "ytmknbdnofogmdaa", sum := "a58368af8eb99b840b476e62468ab2eb5a515f7ec334597444b66cd3def2a8a8", func := "quern/quernlaw06.MacWays", spec := "macWays", unfollowed := true, recurses := true, apart := false }
def MacWaysSaid : Prop := macWaysRow.holds Try.pinned (OpenSpec.ofChange macWaysSpec)

/-- ITS FALSE NEIGHBOUR: 'it returns false'. Refute it at one input. -/
def macWaysWrong : ChangeSpec := { name := "macWays", fn := fun _ => fun
  | [d] => { results := [.lit (.bool false)], args := [d] }
  | _ => none }
def MacWaysWrongFalsely : Prop := macWaysRow.holds Try.pinned (OpenSpec.ofChange macWaysWrong)

/-- 'quernlaw06.MacZero': WHATEVER THE INPUT: true; the input reads as it did. -/
def macZeroSpec : ChangeSpec := { name := "macZero", fn := fun _ => fun
  | [d] => { results := [.lit (.bool true)], args := [d] }
  | _ => none }
def macZeroRow : OpenClaim := { program := "ytmknbdnofogmdaa", sum := "a58368af8eb99b840b476e62468ab2eb5a515f7ec334597444b66cd3def2a8a8", func := "quern/quernlaw06.MacZero", spec := "macZero", unfollowed := true, recurses := true, apart := false }
def MacZeroSaid : Prop := macZeroRow.holds Try.pinned (OpenSpec.ofChange macZeroSpec)

/-- ITS FALSE NEIGHBOUR: 'it returns false'. Refute it at one input. -/
def macZeroWrong : ChangeSpec := { name := "macZero", fn := fun _ => fun
  | [d] => { results := [.lit (.bool false)], args := [d] }
  | _ => none }
def MacZeroWrongFalsely : Prop := macZeroRow.holds Try.pinned (OpenSpec.ofChange macZeroWrong)

/-- 'quernlaw06.MacOthers': WHATEVER THE INPUT: true; the input reads as it did. -/
def macOthersSpec : ChangeSpec := { name := "macOthers", fn := fun _ => fun
  | [d1, d2] => { results := [.lit (.bool true)], args := [d1, d2] }
  | _ => none }
def macOthersRow : OpenClaim := { program := "ytmknbdnofogmdaa", sum := "a58368af8eb99b840b476e62468ab2eb5a515f7ec334597444b66cd3def2a8a8", func := "quern/quernlaw06.MacOthers", spec := "macOthers", unfollowed := true, recurses := true, apart := false }
def MacOthersSaid : Prop := macOthersRow.holds Try.pinned (OpenSpec.ofChange macOthersSpec)

/-- ITS FALSE NEIGHBOUR: 'it returns false'. Refute it at one input. -/
def macOthersWrong : ChangeSpec := { name := "macOthers", fn := fun _ => fun
  | [d1, d2] => { results := [.lit (.bool false)], args := [d1, d2] }
  | _ => none }
def MacOthersWrongFalsely : Prop := macOthersRow.holds Try.pinned (OpenSpec.ofChange macOthersWrong)

/- THE SECOND FORM. 'bulk': how many values and letters a reading holds, each counted each time it is reached (what is shared counts as often as it is met; a slice's spare places count too). A statement '..UptoSaid' is the law's where the arguments, and the package variables that the reading takes, are together of bulk at most 1048576: NARROWER than '..Said'. Prove '..Said' where nothing that the law and all that it calls make is longer than what came in: it says more and counts as full. Else prove '..UptoSaid'. A law counts once. -/
mutual
def uptoBulk {H : Type} : DataW H → Nat
  | .lit (.string bytes) => bytes.length + 1
  | .lit _ => 1
  | .nil => 1
  | .ptr d => uptoBulk d + 1
  | .slice elems spare => uptoBulkAll elems + uptoBulkAll spare + 1
  | .agg parts => uptoBulkAll parts + 1
  | .iface _ d => uptoBulk d + 1
  | .map entries => uptoBulkEntries entries + 1
  | .held _ => 1
def uptoBulkAll {H : Type} : List (DataW H) → Nat
  | [] => 0
  | d :: r => uptoBulk d + uptoBulkAll r
def uptoBulkEntries {H : Type} : List (Lit × DataW H) → Nat
  | [] => 0
  | x :: r => uptoBulkEntry x + uptoBulkEntries r
def uptoBulkEntry {H : Type} : Lit × DataW H → Nat
  | (.string bytes, d) => bytes.length + uptoBulk d + 1
  | (_, d) => uptoBulk d + 1
 end
def uptoSmall : (H : Type) → List (DataW H) → Bool := fun _ ds => decide (uptoBulkAll ds ≤ 1048576)
def OpenSpec.upto (s : _root_.Go.ChangeSpec) : _root_.Go.OpenSpec := { _root_.Go.OpenSpec.ofChange s with cond := some uptoSmall }

/-- 'quernlaw06.MacUnrows', WHERE WHAT IT READS IS OF BULK AT MOST 1048576: true; the input reads as it did. -/
def macUnrowsUptoRow : OpenClaim := { program := "ytmknbdnofogmdaa", sum := "a58368af8eb99b840b476e62468ab2eb5a515f7ec334597444b66cd3def2a8a8", func := "quern/quernlaw06.MacUnrows", spec := "macUnrows", apart := false, narrowed := true }
def MacUnrowsUptoSaid : Prop := macUnrowsUptoRow.holds Try.pinned (OpenSpec.upto macUnrowsSpec)

/-- 'quernlaw01.WordCuts', WHERE WHAT IT READS IS OF BULK AT MOST 1048576: true; the input reads as it did. -/
def wordCutsUptoRow : OpenClaim := { program := "ytmknbdnofogmdaa", sum := "a58368af8eb99b840b476e62468ab2eb5a515f7ec334597444b66cd3def2a8a8", func := "quern/quernlaw01.WordCuts", spec := "wordCuts", apart := false, narrowed := true }
def WordCutsUptoSaid : Prop := wordCutsUptoRow.holds Try.pinned (OpenSpec.upto wordCutsSpec)

/-- 'quernlaw06.MacRows', WHERE WHAT IT READS IS OF BULK AT MOST 1048576: true; the input reads as it did. -/
def macRowsUptoRow : OpenClaim := { program := "ytmknbdnofogmdaa", sum := "a58368af8eb99b840b476e62468ab2eb5a515f7ec334597444b66cd3def2a8a8", func := "quern/quernlaw06.MacRows", spec := "macRows", unfollowed := true, recurses := true, apart := false, narrowed := true }
def MacRowsUptoSaid : Prop := macRowsUptoRow.holds Try.pinned (OpenSpec.upto macRowsSpec)

/-- 'quernlaw06.MacTold', WHERE WHAT IT READS IS OF BULK AT MOST 1048576: true; the input reads as it did. -/
def macToldUptoRow : OpenClaim := { program := "ytmknbdnofogmdaa", sum := "a58368af8eb99b840b476e62468ab2eb5a515f7ec334597444b66cd3def2a8a8", func := "quern/quernlaw06.MacTold", spec := "macTold", unfollowed := true, recurses := true, apart := false, narrowed := true }
def MacToldUptoSaid : Prop := macToldUptoRow.holds Try.pinned (OpenSpec.upto macToldSpec)

/-- 'quernlaw06.MacWays', WHERE WHAT IT READS IS OF BULK AT MOST 1048576: true; the input reads as it did. -/
def macWaysUptoRow : OpenClaim := { program := "ytmknbdnofogmdaa", sum := "a58368af8eb99b840b476e62468ab2eb5a515f7ec334597444b66cd3def2a8a8", func := "quern/quernlaw06.MacWays", spec := "macWays", unfollowed := true, recurses := true, apart := false, narrowed := true }
def MacWaysUptoSaid : Prop := macWaysUptoRow.holds Try.pinned (OpenSpec.upto macWaysSpec)

/-- 'quernlaw06.MacZero', WHERE WHAT IT READS IS OF BULK AT MOST 1048576: true; the input reads as it did. -/
def macZeroUptoRow : OpenClaim := { program := "ytmknbdnofogmdaa", sum := "a58368af8eb99b840b476e62468ab2eb5a515f7ec334597444b66cd3def2a8a8", func := "quern/quernlaw06.MacZero", spec := "macZero", unfollowed := true, recurses := true, apart := false, narrowed := true }
def MacZeroUptoSaid : Prop := macZeroUptoRow.holds Try.pinned (OpenSpec.upto macZeroSpec)

/-- 'quernlaw06.MacOthers', WHERE WHAT IT READS IS OF BULK AT MOST 1048576: true; the input reads as it did. -/
def macOthersUptoRow : OpenClaim := { program := "ytmknbdnofogmdaa", sum := "a58368af8eb99b840b476e62468ab2eb5a515f7ec334597444b66cd3def2a8a8", func := "quern/quernlaw06.MacOthers", spec := "macOthers", unfollowed := true, recurses := true, apart := false, narrowed := true }
def MacOthersUptoSaid : Prop := macOthersUptoRow.holds Try.pinned (OpenSpec.upto macOthersSpec)

end Rows
end Go.Proofs.Ytmknbdnofogmdaa
