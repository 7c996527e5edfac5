/-
  No cell of these rows narrows 'for every input' (looked for: loops, veiled, ifaces, maps, wideKeys, modest, calm, conditions, laid).
  DERIVED. THE GIVEN ROWS OF THIS SEAT. 6 by the template 'for every input the law returns true; each argument reads behind the call as it read before'; 0 by the template 'total and deterministic' (their statements: YtnkkkgaojhkniaaTotals.lean).
  GIVEN WITH THE SEED: the statements are not yours to turn. If you find one false, say at which input.
  Laid BY PROGRAM, IN A SANDBOX (cutbox-rows.mjs): the forced cells as the released guide's own fill.sh prints them over the translation e81094f4e2ab49f0… (all of the seat's roots in one cut). By AI agents, Wed Nov 11 2026. No macro, syntax, notation, axiom, sorry.
-/
import Derived.Test.YtnkkkgaojhkniaaChecked
import GoSem.Claim
import GoSem.ClaimJoined
import GoSem.ClaimMapViews
import Derived.JoinedTies
import Derived.KernelRfl
namespace Go.Proofs.Ytnkkkgaojhkniaa
/- THE CELL 'sum', in the pinned program and in every row, IS THE sha256 OF THE DUMP (.gsa) THAT YtnkkkgaojhkniaaProg.lean LOADS. Nothing in Lean hashes anything: it is a label: what it is worth is what the hold of that sum in a sandbox is worth. -/
noncomputable def Try.pinned : Pinned := { name := "ytnkkkgaojhkniaa", sum := "e81094f4e2ab49f0733f4a2c95a6082f4aa1aeef24b196cea0e6b2dd8cd22250", checked := Try.checked }
namespace Rows
def none {H : Type} : Left H := { results := [], args := [] }

/-- 'laws.FnExactIsSquare': WHATEVER THE INPUT: true; the input reads as it did. -/
def fnExactIsSquareSpec : ChangeSpec := { name := "fnExactIsSquare", fn := fun _ => fun
  | [d1, d2, d3] => { results := [.lit (.bool true)], args := [d1, d2, d3] }
  | _ => none }
def fnExactIsSquareRow : OpenClaim := { program := "ytnkkkgaojhkniaa", sum := "e81094f4e2ab49f0733f4a2c95a6082f4aa1aeef24b196cea0e6b2dd8cd22250", func := "loop.example/g01245/laws.FnExactIsSquare", spec := "fnExactIsSquare", apart := false }
def FnExactIsSquareSaid : Prop := fnExactIsSquareRow.holds Try.pinned (OpenSpec.ofChange fnExactIsSquareSpec)

/-- ITS FALSE NEIGHBOUR: 'it returns false'. Refute it at one input. -/
def fnExactIsSquareWrong : ChangeSpec := { name := "fnExactIsSquare", fn := fun _ => fun
  | [d1, d2, d3] => { results := [.lit (.bool false)], args := [d1, d2, d3] }
  | _ => none }
def FnExactIsSquareWrongFalsely : Prop := fnExactIsSquareRow.holds Try.pinned (OpenSpec.ofChange fnExactIsSquareWrong)

/-- 'laws.FnExactCompanionOf': WHATEVER THE INPUT: true; the input reads as it did. -/
def fnExactCompanionOfSpec : ChangeSpec := { name := "fnExactCompanionOf", fn := fun _ => fun
  | [d1, d2] => { results := [.lit (.bool true)], args := [d1, d2] }
  | _ => none }
def fnExactCompanionOfRow : OpenClaim := { program := "ytnkkkgaojhkniaa", sum := "e81094f4e2ab49f0733f4a2c95a6082f4aa1aeef24b196cea0e6b2dd8cd22250", func := "loop.example/g01245/laws.FnExactCompanionOf", spec := "fnExactCompanionOf", unfollowed := true, recurses := true, apart := false }
def FnExactCompanionOfSaid : Prop := fnExactCompanionOfRow.holds Try.pinned (OpenSpec.ofChange fnExactCompanionOfSpec)

/-- ITS FALSE NEIGHBOUR: 'it returns false'. Refute it at one input. -/
def fnExactCompanionOfWrong : ChangeSpec := { name := "fnExactCompanionOf", fn := fun _ => fun
  | [d1, d2] => { results := [.lit (.bool false)], args := [d1, d2] }
  | _ => none }
def FnExactCompanionOfWrongFalsely : Prop := fnExactCompanionOfRow.holds Try.pinned (OpenSpec.ofChange fnExactCompanionOfWrong)

/-- 'laws.FnExactParsePoly': WHATEVER THE INPUT: true; the input reads as it did. -/
def fnExactParsePolySpec : ChangeSpec := { name := "fnExactParsePoly", fn := fun _ => fun
  | [d1, d2] => { results := [.lit (.bool true)], args := [d1, d2] }
  | _ => none }
def fnExactParsePolyRow : OpenClaim := { program := "ytnkkkgaojhkniaa", sum := "e81094f4e2ab49f0733f4a2c95a6082f4aa1aeef24b196cea0e6b2dd8cd22250", func := "loop.example/g01245/laws.FnExactParsePoly", spec := "fnExactParsePoly", unfollowed := true, recurses := true, apart := false }
def FnExactParsePolySaid : Prop := fnExactParsePolyRow.holds Try.pinned (OpenSpec.ofChange fnExactParsePolySpec)

/-- ITS FALSE NEIGHBOUR: 'it returns false'. Refute it at one input. -/
def fnExactParsePolyWrong : ChangeSpec := { name := "fnExactParsePoly", fn := fun _ => fun
  | [d1, d2] => { results := [.lit (.bool false)], args := [d1, d2] }
  | _ => none }
def FnExactParsePolyWrongFalsely : Prop := fnExactParsePolyRow.holds Try.pinned (OpenSpec.ofChange fnExactParsePolyWrong)

/-- 'laws.FnExactApplySquare': WHATEVER THE INPUT: true; the input reads as it did. -/
def fnExactApplySquareSpec : ChangeSpec := { name := "fnExactApplySquare", fn := fun _ => fun
  | [d1, d2, d3, d4, d5] => { results := [.lit (.bool true)], args := [d1, d2, d3, d4, d5] }
  | _ => none }
def fnExactApplySquareRow : OpenClaim := { program := "ytnkkkgaojhkniaa", sum := "e81094f4e2ab49f0733f4a2c95a6082f4aa1aeef24b196cea0e6b2dd8cd22250", func := "loop.example/g01245/laws.FnExactApplySquare", spec := "fnExactApplySquare", unfollowed := true, recurses := true, apart := false }
def FnExactApplySquareSaid : Prop := fnExactApplySquareRow.holds Try.pinned (OpenSpec.ofChange fnExactApplySquareSpec)

/-- ITS FALSE NEIGHBOUR: 'it returns false'. Refute it at one input. -/
def fnExactApplySquareWrong : ChangeSpec := { name := "fnExactApplySquare", fn := fun _ => fun
  | [d1, d2, d3, d4, d5] => { results := [.lit (.bool false)], args := [d1, d2, d3, d4, d5] }
  | _ => none }
def FnExactApplySquareWrongFalsely : Prop := fnExactApplySquareRow.holds Try.pinned (OpenSpec.ofChange fnExactApplySquareWrong)

/-- 'laws.FnExactOrderOfVector': WHATEVER THE INPUT: true; the input reads as it did. -/
def fnExactOrderOfVectorSpec : ChangeSpec := { name := "fnExactOrderOfVector", fn := fun _ => fun
  | [d1, d2, d3, d4] => { results := [.lit (.bool true)], args := [d1, d2, d3, d4] }
  | _ => none }
def fnExactOrderOfVectorRow : OpenClaim := { program := "ytnkkkgaojhkniaa", sum := "e81094f4e2ab49f0733f4a2c95a6082f4aa1aeef24b196cea0e6b2dd8cd22250", func := "loop.example/g01245/laws.FnExactOrderOfVector", spec := "fnExactOrderOfVector", inPlace := ["slices.overlaps[loop.example/g01245/impl.row]"], unfollowed := true, recurses := true, apart := false }
def FnExactOrderOfVectorSaid : Prop := fnExactOrderOfVectorRow.holds Try.pinned (OpenSpec.ofChange fnExactOrderOfVectorSpec)

/-- ITS FALSE NEIGHBOUR: 'it returns false'. Refute it at one input. -/
def fnExactOrderOfVectorWrong : ChangeSpec := { name := "fnExactOrderOfVector", fn := fun _ => fun
  | [d1, d2, d3, d4] => { results := [.lit (.bool false)], args := [d1, d2, d3, d4] }
  | _ => none }
def FnExactOrderOfVectorWrongFalsely : Prop := fnExactOrderOfVectorRow.holds Try.pinned (OpenSpec.ofChange fnExactOrderOfVectorWrong)

/-- 'laws.FnExactKernelOfPoly': WHATEVER THE INPUT: true; the input reads as it did. -/
def fnExactKernelOfPolySpec : ChangeSpec := { name := "fnExactKernelOfPoly", fn := fun _ => fun
  | [d1, d2, d3, d4] => { results := [.lit (.bool true)], args := [d1, d2, d3, d4] }
  | _ => none }
def fnExactKernelOfPolyRow : OpenClaim := { program := "ytnkkkgaojhkniaa", sum := "e81094f4e2ab49f0733f4a2c95a6082f4aa1aeef24b196cea0e6b2dd8cd22250", func := "loop.example/g01245/laws.FnExactKernelOfPoly", spec := "fnExactKernelOfPoly", unfollowed := true, recurses := true, apart := false }
def FnExactKernelOfPolySaid : Prop := fnExactKernelOfPolyRow.holds Try.pinned (OpenSpec.ofChange fnExactKernelOfPolySpec)

/-- ITS FALSE NEIGHBOUR: 'it returns false'. Refute it at one input. -/
def fnExactKernelOfPolyWrong : ChangeSpec := { name := "fnExactKernelOfPoly", fn := fun _ => fun
  | [d1, d2, d3, d4] => { results := [.lit (.bool false)], args := [d1, d2, d3, d4] }
  | _ => none }
def FnExactKernelOfPolyWrongFalsely : Prop := fnExactKernelOfPolyRow.holds Try.pinned (OpenSpec.ofChange fnExactKernelOfPolyWrong)

/- THE SECOND FORM. 'bulk': how many values and letters a reading holds, each counted each time it is reached (what is shared counts as often as it is met; a slice's spare places count too). A statement '..UptoSaid' is the law's where the arguments, and the package variables that the reading takes, are together of bulk at most 1048576: NARROWER than '..Said'. Prove '..Said' where nothing that the law and all that it calls make is longer than what came in: it says more and counts as full. Else prove '..UptoSaid'. A law counts once. -/
mutual
def uptoBulk {H : Type} : DataW H → Nat
  | .lit (.string bytes) => bytes.length + 1
  | .lit _ => 1
  | .nil => 1
  | .ptr d => uptoBulk d + 1
  | .slice elems spare => uptoBulkAll elems + uptoBulkAll spare + 1
  | .agg parts => uptoBulkAll parts + 1
  | .iface _ d => uptoBulk d + 1
  | .map entries => uptoBulkEntries entries + 1
  | .held _ => 1
def uptoBulkAll {H : Type} : List (DataW H) → Nat
  | [] => 0
  | d :: r => uptoBulk d + uptoBulkAll r
def uptoBulkEntries {H : Type} : List (Lit × DataW H) → Nat
  | [] => 0
  | x :: r => uptoBulkEntry x + uptoBulkEntries r
def uptoBulkEntry {H : Type} : Lit × DataW H → Nat
  | (.string bytes, d) => bytes.length + uptoBulk d + 1
  | (_, d) => uptoBulk d + 1
 end
def uptoSmall : (H : Type) → List (DataW H) → Bool := fun _ ds => decide (uptoBulkAll ds ≤ 1048576)
def OpenSpec.upto (s : _root_.Go.ChangeSpec) : _root_.Go.OpenSpec := { _root_.Go.OpenSpec.ofChange s with cond := some uptoSmall }

/-- 'laws.FnExactIsSquare', WHERE WHAT IT READS IS OF BULK AT MOST 1048576: true; the input reads as it did. -/
def fnExactIsSquareUptoRow : OpenClaim := { program := "ytnkkkgaojhkniaa", sum := "e81094f4e2ab49f0733f4a2c95a6082f4aa1aeef24b196cea0e6b2dd8cd22250", func := "loop.example/g01245/laws.FnExactIsSquare", spec := "fnExactIsSquare", apart := false, narrowed := true }
def FnExactIsSquareUptoSaid : Prop := fnExactIsSquareUptoRow.holds Try.pinned (OpenSpec.upto fnExactIsSquareSpec)

/-- 'laws.FnExactCompanionOf', WHERE WHAT IT READS IS OF BULK AT MOST 1048576: true; the input reads as it did. -/
def fnExactCompanionOfUptoRow : OpenClaim := { program := "ytnkkkgaojhkniaa", sum := "e81094f4e2ab49f0733f4a2c95a6082f4aa1aeef24b196cea0e6b2dd8cd22250", func := "loop.example/g01245/laws.FnExactCompanionOf", spec := "fnExactCompanionOf", unfollowed := true, recurses := true, apart := false, narrowed := true }
def FnExactCompanionOfUptoSaid : Prop := fnExactCompanionOfUptoRow.holds Try.pinned (OpenSpec.upto fnExactCompanionOfSpec)

/-- 'laws.FnExactParsePoly', WHERE WHAT IT READS IS OF BULK AT MOST 1048576: true; the input reads as it did. -/
def fnExactParsePolyUptoRow : OpenClaim := { program := "ytnkkkgaojhkniaa", sum := "e81094f4e2ab49f0733f4a2c95a6082f4aa1aeef24b196cea0e6b2dd8cd22250", func := "loop.example/g01245/laws.FnExactParsePoly", spec := "fnExactParsePoly", unfollowed := true, recurses := true, apart := false, narrowed := true }
def FnExactParsePolyUptoSaid : Prop := fnExactParsePolyUptoRow.holds Try.pinned (OpenSpec.upto fnExactParsePolySpec)

/-- 'laws.FnExactApplySquare', WHERE WHAT IT READS IS OF BULK AT MOST 1048576: true; the input reads as it did. -/
def fnExactApplySquareUptoRow : OpenClaim := { program := "ytnkkkgaojhkniaa", sum := "e81094f4e2ab49f0733f4a2c95a6082f4aa1aeef24b196cea0e6b2dd8cd22250", func := "loop.example/g01245/laws.FnExactApplySquare", spec := "fnExactApplySquare", unfollowed := true, recurses := true, apart := false, narrowed := true }
def FnExactApplySquareUptoSaid : Prop := fnExactApplySquareUptoRow.holds Try.pinned (OpenSpec.upto fnExactApplySquareSpec)

/-- 'laws.FnExactOrderOfVector', WHERE WHAT IT READS IS OF BULK AT MOST 1048576: true; the input reads as it did. -/
def fnExactOrderOfVectorUptoRow : OpenClaim := { program := "ytnkkkgaojhkniaa", sum := "e81094f4e2ab49f0733f4a2c95a6082f4aa1aeef24b196cea0e6b2dd8cd22250", func := "loop.example/g01245/laws.FnExactOrderOfVector", spec := "fnExactOrderOfVector", inPlace := ["slices.overlaps[loop.example/g01245/impl.row]"], unfollowed := true, recurses := true, apart := false, narrowed := true }
def FnExactOrderOfVectorUptoSaid : Prop := fnExactOrderOfVectorUptoRow.holds Try.pinned (OpenSpec.upto fnExactOrderOfVectorSpec)

/-- 'laws.FnExactKernelOfPoly', WHERE WHAT IT READS IS OF BULK AT MOST 1048576: true; the input reads as it did. -/
def fnExactKernelOfPolyUptoRow : OpenClaim := { program := "ytnkkkgaojhkniaa", sum := "e81094f4e2ab49f0733f4a2c95a6082f4aa1aeef24b196cea0e6b2dd8cd22250", func := "loop.example/g01245/laws.FnExactKernelOfPoly", spec := "fnExactKernelOfPoly", unfollowed := true, recurses := true, apart := false, narrowed := true }
def FnExactKernelOfPolyUptoSaid : Prop := fnExactKernelOfPolyUptoRow.holds Try.pinned (OpenSpec.upto fnExactKernelOfPolySpec)

end Rows
end Go.Proofs.Ytnkkkgaojhkniaa
