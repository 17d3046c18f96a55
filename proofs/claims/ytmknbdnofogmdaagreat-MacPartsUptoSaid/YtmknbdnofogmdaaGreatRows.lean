/-
  No cell of these rows narrows 'for every input' (looked for: loops, veiled, ifaces, maps, wideKeys, modest, calm, conditions, laid).
  DERIVED. THE GIVEN ROWS OF THIS SEAT. 5 by the template 'for every input the law returns true; each argument reads behind the call as it read before'; 0 by the template 'total and deterministic' (their statements: YtmknbdnofogmdaaGreatTotals.lean).
  GIVEN WITH THE SEED: the statements are not yours to turn. If you find one false, say at which input.
  Laid BY PROGRAM, IN A SANDBOX (cutbox-rows.mjs): the forced cells as the released guide's own fill.sh prints them over the translation 07220a17fd573823… (all of the seat's roots in one cut). By AI agents, Wed Nov 11 2026. No macro, syntax, notation, axiom, sorry.
-/
import Derived.Test.YtmknbdnofogmdaaGreatChecked
import GoSem.Claim
import GoSem.ClaimJoined
import GoSem.ClaimMapViews
import Derived.JoinedTies
import Derived.KernelRfl
namespace Go.Proofs.YtmknbdnofogmdaaGreat
/- THE CELL 'sum', in the pinned program and in every row, IS THE sha256 OF THE DUMP (.gsa) THAT YtmknbdnofogmdaaGreatProg.lean LOADS. Nothing in Lean hashes anything: it is a label: what it is worth is what the hold of that sum in a sandbox is worth. -/
noncomputable def Tryz.pinned : Pinned := { name := "ytmknbdnofogmdaagreat", sum := "07220a17fd5738234656e9df45e539a0b0c5a273a1ca22ad7cc1f20db9948bba", checked := Tryz.checked }
namespace Rows
def none {H : Type} : Left H := { results := [], args := [] }

/-- 'quernlaw06.MacMakes': WHATEVER THE INPUT: true; the input reads as it did. -/
def macMakesSpec : ChangeSpec := { name := "macMakes", fn := fun _ => fun
  | [d] => { results := [.lit (.bool true)], args := [d] }
  | _ => none }
def macMakesRow : OpenClaim := { program := "ytmknbdnofogmdaagreat", sum := "07220a17fd5738234656e9df45e539a0b0c5a273a1ca22ad7cc1f20db9948bba", func := "quern/quernlaw06.MacMakes", spec := "macMakes", unfollowed := true, recurses := true, apart := false }
def MacMakesSaid : Prop := macMakesRow.holds Tryz.pinned (OpenSpec.ofChange macMakesSpec)

/-- ITS FALSE NEIGHBOUR: 'it returns false'. Refute it at one input. -/
def macMakesWrong : ChangeSpec := { name := "macMakes", fn := fun _ => fun
  | [d] => { results := [.lit (.bool false)], args := [d] }
  | _ => none }
def MacMakesWrongFalsely : Prop := macMakesRow.holds Tryz.pinned (OpenSpec.ofChange macMakesWrong)

/-- 'quernlaw06.MacChecks': WHATEVER THE INPUT: true; the input reads as it did. -/
def macChecksSpec : ChangeSpec := { name := "macChecks", fn := fun _ => fun
  | [d] => { results := [.lit (.bool true)], args := [d] }
  | _ => none }
def macChecksRow : OpenClaim := { program := "ytmknbdnofogmdaagreat", sum := "07220a17fd5738234656e9df45e539a0b0c5a273a1ca22ad7cc1f20db9948bba", func := "quern/quernlaw06.MacChecks", spec := "macChecks", unfollowed := true, recurses := true, apart := false }
def MacChecksSaid : Prop := macChecksRow.holds Tryz.pinned (OpenSpec.ofChange macChecksSpec)

/-- ITS FALSE NEIGHBOUR: 'it returns false'. Refute it at one input. -/
def macChecksWrong : ChangeSpec := { name := "macChecks", fn := fun _ => fun
  | [d] => { results := [.lit (.bool false)], args := [d] }
  | _ => none }
def MacChecksWrongFalsely : Prop := macChecksRow.holds Tryz.pinned (OpenSpec.ofChange macChecksWrong)

/-- 'quernlaw06.MacSubkeys': WHATEVER THE INPUT: true; the input reads as it did. -/
def macSubkeysSpec : ChangeSpec := { name := "macSubkeys", fn := fun _ => fun
  | [d] => { results := [.lit (.bool true)], args := [d] }
  | _ => none }
def macSubkeysRow : OpenClaim := { program := "ytmknbdnofogmdaagreat", sum := "07220a17fd5738234656e9df45e539a0b0c5a273a1ca22ad7cc1f20db9948bba", func := "quern/quernlaw06.MacSubkeys", spec := "macSubkeys", unfollowed := true, recurses := true, apart := false }
def MacSubkeysSaid : Prop := macSubkeysRow.holds Tryz.pinned (OpenSpec.ofChange macSubkeysSpec)

/-- ITS FALSE NEIGHBOUR: 'it returns false'. Refute it at one input. -/
def macSubkeysWrong : ChangeSpec := { name := "macSubkeys", fn := fun _ => fun
  | [d] => { results := [.lit (.bool false)], args := [d] }
  | _ => none }
def MacSubkeysWrongFalsely : Prop := macSubkeysRow.holds Tryz.pinned (OpenSpec.ofChange macSubkeysWrong)

/-- 'quernlaw06.MacParts': WHATEVER THE INPUT: true; the input reads as it did. -/
def macPartsSpec : ChangeSpec := { name := "macParts", fn := fun _ => fun
  | [d1, d2, d3] => { results := [.lit (.bool true)], args := [d1, d2, d3] }
  | _ => none }
def macPartsRow : OpenClaim := { program := "ytmknbdnofogmdaagreat", sum := "07220a17fd5738234656e9df45e539a0b0c5a273a1ca22ad7cc1f20db9948bba", func := "quern/quernlaw06.MacParts", spec := "macParts", unfollowed := true, recurses := true, apart := false }
def MacPartsSaid : Prop := macPartsRow.holds Tryz.pinned (OpenSpec.ofChange macPartsSpec)

/-- ITS FALSE NEIGHBOUR: 'it returns false'. Refute it at one input. -/
def macPartsWrong : ChangeSpec := { name := "macParts", fn := fun _ => fun
  | [d1, d2, d3] => { results := [.lit (.bool false)], args := [d1, d2, d3] }
  | _ => none }
def MacPartsWrongFalsely : Prop := macPartsRow.holds Tryz.pinned (OpenSpec.ofChange macPartsWrong)

/-- 'quernlaw06.MacRings': WHATEVER THE INPUT: true; the input reads as it did. -/
def macRingsSpec : ChangeSpec := { name := "macRings", fn := fun _ => fun
  | [d1, d2, d3] => { results := [.lit (.bool true)], args := [d1, d2, d3] }
  | _ => none }
def macRingsRow : OpenClaim := { program := "ytmknbdnofogmdaagreat", sum := "07220a17fd5738234656e9df45e539a0b0c5a273a1ca22ad7cc1f20db9948bba", func := "quern/quernlaw06.MacRings", spec := "macRings", unfollowed := true, recurses := true, apart := false }
def MacRingsSaid : Prop := macRingsRow.holds Tryz.pinned (OpenSpec.ofChange macRingsSpec)

/-- ITS FALSE NEIGHBOUR: 'it returns false'. Refute it at one input. -/
def macRingsWrong : ChangeSpec := { name := "macRings", fn := fun _ => fun
  | [d1, d2, d3] => { results := [.lit (.bool false)], args := [d1, d2, d3] }
  | _ => none }
def MacRingsWrongFalsely : Prop := macRingsRow.holds Tryz.pinned (OpenSpec.ofChange macRingsWrong)

/- THE SECOND FORM. 'bulk': how many values and letters a reading holds, each counted each time it is reached (what is shared counts as often as it is met; a slice's spare places count too). A statement '..UptoSaid' is the law's where the arguments, and the package variables that the reading takes, are together of bulk at most 1048576: NARROWER than '..Said'. Prove '..Said' where nothing that the law and all that it calls make is longer than what came in: it says more and counts as full. Else prove '..UptoSaid'. A law counts once. -/
mutual
def uptoBulk {H : Type} : DataW H → Nat
  | .lit (.string bytes) => bytes.length + 1
  | .lit _ => 1
  | .nil => 1
  | .ptr d => uptoBulk d + 1
  | .slice elems spare => uptoBulkAll elems + uptoBulkAll spare + 1
  | .agg parts => uptoBulkAll parts + 1
  | .iface _ d => uptoBulk d + 1
  | .map entries => uptoBulkEntries entries + 1
  | .held _ => 1
def uptoBulkAll {H : Type} : List (DataW H) → Nat
  | [] => 0
  | d :: r => uptoBulk d + uptoBulkAll r
def uptoBulkEntries {H : Type} : List (Lit × DataW H) → Nat
  | [] => 0
  | x :: r => uptoBulkEntry x + uptoBulkEntries r
def uptoBulkEntry {H : Type} : Lit × DataW H → Nat
  | (.string bytes, d) => bytes.length + uptoBulk d + 1
  | (_, d) => uptoBulk d + 1
 end
def uptoSmall : (H : Type) → List (DataW H) → Bool := fun _ ds => decide (uptoBulkAll ds ≤ 1048576)
def OpenSpec.upto (s : _root_.Go.ChangeSpec) : _root_.Go.OpenSpec := { _root_.Go.OpenSpec.ofChange s with cond := some uptoSmall }

/-- 'quernlaw06.MacMakes', WHERE WHAT IT READS IS OF BULK AT MOST 1048576: true; the input reads as it did. -/
def macMakesUptoRow : OpenClaim := { program := "ytmknbdnofogmdaagreat", sum := "07220a17fd5738234656e9df45e539a0b0c5a273a1ca22ad7cc1f20db9948bba", func := "quern/quernlaw06.MacMakes", spec := "macMakes", unfollowed := true, recurses := true, apart := false, narrowed := true }
def MacMakesUptoSaid : Prop := macMakesUptoRow.holds Tryz.pinned (OpenSpec.upto macMakesSpec)

/-- 'quernlaw06.MacChecks', WHERE WHAT IT READS IS OF BULK AT MOST 1048576: true; the input reads as it did. -/
def macChecksUptoRow : OpenClaim := { program := "ytmknbdnofogmdaagreat", sum := "07220a17fd5738234656e9df45e539a0b0c5a273a1ca22ad7cc1f20db9948bba", func := "quern/quernlaw06.MacChecks", spec := "macChecks", unfollowed := true, recurses := true, apart := false, narrowed := true }
def MacChecksUptoSaid : Prop := macChecksUptoRow.holds Tryz.pinned (OpenSpec.upto macChecksSpec)

/-- 'quernlaw06.MacSubkeys', WHERE WHAT IT READS IS OF BULK AT MOST 1048576: true; the input reads as it did. -/
def macSubkeysUptoRow : OpenClaim := { program := "ytmknbdnofogmdaagreat", sum := "07220a17fd5738234656e9df45e539a0b0c5a273a1ca22ad7cc1f20db9948bba", func := "quern/quernlaw06.MacSubkeys", spec := "macSubkeys", unfollowed := true, recurses := true, apart := false, narrowed := true }
def MacSubkeysUptoSaid : Prop := macSubkeysUptoRow.holds Tryz.pinned (OpenSpec.upto macSubkeysSpec)

/-- 'quernlaw06.MacParts', WHERE WHAT IT READS IS OF BULK AT MOST 1048576: true; the input reads as it did. -/
def macPartsUptoRow : OpenClaim := { program := "ytmknbdnofogmdaagreat", sum := "07220a17fd5738234656e9df45e539a0b0c5a273a1ca22ad7cc1f20db9948bba", func := "quern/quernlaw06.MacParts", spec := "macParts", unfollowed := true, recurses := true, apart := false, narrowed := true }
def MacPartsUptoSaid : Prop := macPartsUptoRow.holds Tryz.pinned (OpenSpec.upto macPartsSpec)

/-- 'quernlaw06.MacRings', WHERE WHAT IT READS IS OF BULK AT MOST 1048576: true; the input reads as it did. -/
def macRingsUptoRow : OpenClaim := { program := "ytmknbdnofogmdaagreat", sum := "07220a17fd5738234656e9df45e539a0b0c5a273a1ca22ad7cc1f20db9948bba", func := "quern/quernlaw06.MacRings", spec := "macRings", unfollowed := true, recurses := true, apart := false, narrowed := true }
def MacRingsUptoSaid : Prop := macRingsUptoRow.holds Tryz.pinned (OpenSpec.upto macRingsSpec)

end Rows
end Go.Proofs.YtmknbdnofogmdaaGreat
