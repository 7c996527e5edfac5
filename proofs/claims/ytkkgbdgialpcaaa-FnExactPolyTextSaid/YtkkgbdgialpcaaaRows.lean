/-
  No cell of these rows narrows 'for every input' (looked for: loops, veiled, ifaces, maps, wideKeys, modest, calm, conditions, laid).
  DERIVED. THE GIVEN ROWS OF THIS SEAT. 12 by the template 'for every input the law returns true; each argument reads behind the call as it read before'; 0 by the template 'total and deterministic' (their statements: YtkkgbdgialpcaaaTotals.lean).
  GIVEN WITH THE SEED: the statements are not yours to turn. If you find one false, say at which input.
  Laid BY PROGRAM, IN A SANDBOX (cutbox-rows.mjs): the forced cells as the released guide's own fill.sh prints them over the translation 755fab9763cc867d… (all of the seat's roots in one cut). By AI agents, Wed Nov 11 2026. No macro, syntax, notation, axiom, sorry.
-/
import Derived.Test.YtkkgbdgialpcaaaChecked
import GoSem.Claim
import GoSem.ClaimJoined
import GoSem.ClaimMapViews
import Derived.JoinedTies
import Derived.KernelRfl
namespace Go.Proofs.Ytkkgbdgialpcaaa
/- THE CELL 'sum', in the pinned program and in every row, IS THE sha256 OF THE DUMP (.gsa) THAT YtkkgbdgialpcaaaProg.lean LOADS. Nothing in Lean hashes anything: it is a label: what it is worth is what the hold of that sum in a sandbox is worth. -/
noncomputable def Try.pinned : Pinned := { name := "ytkkgbdgialpcaaa", sum := "755fab9763cc867d89ea43f5c4afeb841fad8f9ca5f0549d6b2519c909c93569", checked := Try.checked }
namespace Rows
def none {H : Type} : Left H := { results := [], args := [] }

/-- 'laws.FnExactConstants': WHATEVER THE INPUT: true; the input reads as it did. -/
def fnExactConstantsSpec : ChangeSpec := { name := "fnExactConstants", fn := fun _ => fun
  | [] => { results := [.lit (.bool true)], args := [] }
  | _ => none }
def fnExactConstantsRow : OpenClaim := { program := "ytkkgbdgialpcaaa", sum := "755fab9763cc867d89ea43f5c4afeb841fad8f9ca5f0549d6b2519c909c93569", func := "loop.example/g01245/laws.FnExactConstants", spec := "fnExactConstants", apart := false }
def FnExactConstantsSaid : Prop := fnExactConstantsRow.holds Try.pinned (OpenSpec.ofChange fnExactConstantsSpec)

/-- ITS FALSE NEIGHBOUR: 'it returns false'. Refute it at one input. -/
def fnExactConstantsWrong : ChangeSpec := { name := "fnExactConstants", fn := fun _ => fun
  | [] => { results := [.lit (.bool false)], args := [] }
  | _ => none }
def FnExactConstantsWrongFalsely : Prop := fnExactConstantsRow.holds Try.pinned (OpenSpec.ofChange fnExactConstantsWrong)

/-- 'laws.FnExactIsPoly': WHATEVER THE INPUT: true; the input reads as it did. -/
def fnExactIsPolySpec : ChangeSpec := { name := "fnExactIsPoly", fn := fun _ => fun
  | [d1, d2] => { results := [.lit (.bool true)], args := [d1, d2] }
  | _ => none }
def fnExactIsPolyRow : OpenClaim := { program := "ytkkgbdgialpcaaa", sum := "755fab9763cc867d89ea43f5c4afeb841fad8f9ca5f0549d6b2519c909c93569", func := "loop.example/g01245/laws.FnExactIsPoly", spec := "fnExactIsPoly", unfollowed := true, recurses := true, apart := false }
def FnExactIsPolySaid : Prop := fnExactIsPolyRow.holds Try.pinned (OpenSpec.ofChange fnExactIsPolySpec)

/-- ITS FALSE NEIGHBOUR: 'it returns false'. Refute it at one input. -/
def fnExactIsPolyWrong : ChangeSpec := { name := "fnExactIsPoly", fn := fun _ => fun
  | [d1, d2] => { results := [.lit (.bool false)], args := [d1, d2] }
  | _ => none }
def FnExactIsPolyWrongFalsely : Prop := fnExactIsPolyRow.holds Try.pinned (OpenSpec.ofChange fnExactIsPolyWrong)

/-- 'laws.FnExactIsSquare': WHATEVER THE INPUT: true; the input reads as it did. -/
def fnExactIsSquareSpec : ChangeSpec := { name := "fnExactIsSquare", fn := fun _ => fun
  | [d1, d2, d3] => { results := [.lit (.bool true)], args := [d1, d2, d3] }
  | _ => none }
def fnExactIsSquareRow : OpenClaim := { program := "ytkkgbdgialpcaaa", sum := "755fab9763cc867d89ea43f5c4afeb841fad8f9ca5f0549d6b2519c909c93569", func := "loop.example/g01245/laws.FnExactIsSquare", spec := "fnExactIsSquare", apart := false }
def FnExactIsSquareSaid : Prop := fnExactIsSquareRow.holds Try.pinned (OpenSpec.ofChange fnExactIsSquareSpec)

/-- ITS FALSE NEIGHBOUR: 'it returns false'. Refute it at one input. -/
def fnExactIsSquareWrong : ChangeSpec := { name := "fnExactIsSquare", fn := fun _ => fun
  | [d1, d2, d3] => { results := [.lit (.bool false)], args := [d1, d2, d3] }
  | _ => none }
def FnExactIsSquareWrongFalsely : Prop := fnExactIsSquareRow.holds Try.pinned (OpenSpec.ofChange fnExactIsSquareWrong)

/-- 'laws.FnExactCountIrreducibles': WHATEVER THE INPUT: true; the input reads as it did. -/
def fnExactCountIrreduciblesSpec : ChangeSpec := { name := "fnExactCountIrreducibles", fn := fun _ => fun
  | [d1, d2] => { results := [.lit (.bool true)], args := [d1, d2] }
  | _ => none }
def fnExactCountIrreduciblesRow : OpenClaim := { program := "ytkkgbdgialpcaaa", sum := "755fab9763cc867d89ea43f5c4afeb841fad8f9ca5f0549d6b2519c909c93569", func := "loop.example/g01245/laws.FnExactCountIrreducibles", spec := "fnExactCountIrreducibles", apart := false }
def FnExactCountIrreduciblesSaid : Prop := fnExactCountIrreduciblesRow.holds Try.pinned (OpenSpec.ofChange fnExactCountIrreduciblesSpec)

/-- ITS FALSE NEIGHBOUR: 'it returns false'. Refute it at one input. -/
def fnExactCountIrreduciblesWrong : ChangeSpec := { name := "fnExactCountIrreducibles", fn := fun _ => fun
  | [d1, d2] => { results := [.lit (.bool false)], args := [d1, d2] }
  | _ => none }
def FnExactCountIrreduciblesWrongFalsely : Prop := fnExactCountIrreduciblesRow.holds Try.pinned (OpenSpec.ofChange fnExactCountIrreduciblesWrong)

/-- 'laws.FnExactDerivativeOf': WHATEVER THE INPUT: true; the input reads as it did. -/
def fnExactDerivativeOfSpec : ChangeSpec := { name := "fnExactDerivativeOf", fn := fun _ => fun
  | [d1, d2] => { results := [.lit (.bool true)], args := [d1, d2] }
  | _ => none }
def fnExactDerivativeOfRow : OpenClaim := { program := "ytkkgbdgialpcaaa", sum := "755fab9763cc867d89ea43f5c4afeb841fad8f9ca5f0549d6b2519c909c93569", func := "loop.example/g01245/laws.FnExactDerivativeOf", spec := "fnExactDerivativeOf", unfollowed := true, recurses := true, apart := false }
def FnExactDerivativeOfSaid : Prop := fnExactDerivativeOfRow.holds Try.pinned (OpenSpec.ofChange fnExactDerivativeOfSpec)

/-- ITS FALSE NEIGHBOUR: 'it returns false'. Refute it at one input. -/
def fnExactDerivativeOfWrong : ChangeSpec := { name := "fnExactDerivativeOf", fn := fun _ => fun
  | [d1, d2] => { results := [.lit (.bool false)], args := [d1, d2] }
  | _ => none }
def FnExactDerivativeOfWrongFalsely : Prop := fnExactDerivativeOfRow.holds Try.pinned (OpenSpec.ofChange fnExactDerivativeOfWrong)

/-- 'laws.FnExactDegreeOf': WHATEVER THE INPUT: true; the input reads as it did. -/
def fnExactDegreeOfSpec : ChangeSpec := { name := "fnExactDegreeOf", fn := fun _ => fun
  | [d1, d2] => { results := [.lit (.bool true)], args := [d1, d2] }
  | _ => none }
def fnExactDegreeOfRow : OpenClaim := { program := "ytkkgbdgialpcaaa", sum := "755fab9763cc867d89ea43f5c4afeb841fad8f9ca5f0549d6b2519c909c93569", func := "loop.example/g01245/laws.FnExactDegreeOf", spec := "fnExactDegreeOf", unfollowed := true, recurses := true, apart := false }
def FnExactDegreeOfSaid : Prop := fnExactDegreeOfRow.holds Try.pinned (OpenSpec.ofChange fnExactDegreeOfSpec)

/-- ITS FALSE NEIGHBOUR: 'it returns false'. Refute it at one input. -/
def fnExactDegreeOfWrong : ChangeSpec := { name := "fnExactDegreeOf", fn := fun _ => fun
  | [d1, d2] => { results := [.lit (.bool false)], args := [d1, d2] }
  | _ => none }
def FnExactDegreeOfWrongFalsely : Prop := fnExactDegreeOfRow.holds Try.pinned (OpenSpec.ofChange fnExactDegreeOfWrong)

/-- 'laws.FnExactKernelOfPoly': WHATEVER THE INPUT: true; the input reads as it did. -/
def fnExactKernelOfPolySpec : ChangeSpec := { name := "fnExactKernelOfPoly", fn := fun _ => fun
  | [d1, d2, d3, d4] => { results := [.lit (.bool true)], args := [d1, d2, d3, d4] }
  | _ => none }
def fnExactKernelOfPolyRow : OpenClaim := { program := "ytkkgbdgialpcaaa", sum := "755fab9763cc867d89ea43f5c4afeb841fad8f9ca5f0549d6b2519c909c93569", func := "loop.example/g01245/laws.FnExactKernelOfPoly", spec := "fnExactKernelOfPoly", unfollowed := true, recurses := true, apart := false }
def FnExactKernelOfPolySaid : Prop := fnExactKernelOfPolyRow.holds Try.pinned (OpenSpec.ofChange fnExactKernelOfPolySpec)

/-- ITS FALSE NEIGHBOUR: 'it returns false'. Refute it at one input. -/
def fnExactKernelOfPolyWrong : ChangeSpec := { name := "fnExactKernelOfPoly", fn := fun _ => fun
  | [d1, d2, d3, d4] => { results := [.lit (.bool false)], args := [d1, d2, d3, d4] }
  | _ => none }
def FnExactKernelOfPolyWrongFalsely : Prop := fnExactKernelOfPolyRow.holds Try.pinned (OpenSpec.ofChange fnExactKernelOfPolyWrong)

/-- 'laws.FnExactValueAt': WHATEVER THE INPUT: true; the input reads as it did. -/
def fnExactValueAtSpec : ChangeSpec := { name := "fnExactValueAt", fn := fun _ => fun
  | [d1, d2, d3] => { results := [.lit (.bool true)], args := [d1, d2, d3] }
  | _ => none }
def fnExactValueAtRow : OpenClaim := { program := "ytkkgbdgialpcaaa", sum := "755fab9763cc867d89ea43f5c4afeb841fad8f9ca5f0549d6b2519c909c93569", func := "loop.example/g01245/laws.FnExactValueAt", spec := "fnExactValueAt", unfollowed := true, recurses := true, apart := false }
def FnExactValueAtSaid : Prop := fnExactValueAtRow.holds Try.pinned (OpenSpec.ofChange fnExactValueAtSpec)

/-- ITS FALSE NEIGHBOUR: 'it returns false'. Refute it at one input. -/
def fnExactValueAtWrong : ChangeSpec := { name := "fnExactValueAt", fn := fun _ => fun
  | [d1, d2, d3] => { results := [.lit (.bool false)], args := [d1, d2, d3] }
  | _ => none }
def FnExactValueAtWrongFalsely : Prop := fnExactValueAtRow.holds Try.pinned (OpenSpec.ofChange fnExactValueAtWrong)

/-- 'laws.FnExactPolyText': WHATEVER THE INPUT: true; the input reads as it did. -/
def fnExactPolyTextSpec : ChangeSpec := { name := "fnExactPolyText", fn := fun _ => fun
  | [d1, d2] => { results := [.lit (.bool true)], args := [d1, d2] }
  | _ => none }
def fnExactPolyTextRow : OpenClaim := { program := "ytkkgbdgialpcaaa", sum := "755fab9763cc867d89ea43f5c4afeb841fad8f9ca5f0549d6b2519c909c93569", func := "loop.example/g01245/laws.FnExactPolyText", spec := "fnExactPolyText", unfollowed := true, recurses := true, apart := false }
def FnExactPolyTextSaid : Prop := fnExactPolyTextRow.holds Try.pinned (OpenSpec.ofChange fnExactPolyTextSpec)

/-- ITS FALSE NEIGHBOUR: 'it returns false'. Refute it at one input. -/
def fnExactPolyTextWrong : ChangeSpec := { name := "fnExactPolyText", fn := fun _ => fun
  | [d1, d2] => { results := [.lit (.bool false)], args := [d1, d2] }
  | _ => none }
def FnExactPolyTextWrongFalsely : Prop := fnExactPolyTextRow.holds Try.pinned (OpenSpec.ofChange fnExactPolyTextWrong)

/-- 'laws.FnExactNumberOfPoly': WHATEVER THE INPUT: true; the input reads as it did. -/
def fnExactNumberOfPolySpec : ChangeSpec := { name := "fnExactNumberOfPoly", fn := fun _ => fun
  | [d1, d2] => { results := [.lit (.bool true)], args := [d1, d2] }
  | _ => none }
def fnExactNumberOfPolyRow : OpenClaim := { program := "ytkkgbdgialpcaaa", sum := "755fab9763cc867d89ea43f5c4afeb841fad8f9ca5f0549d6b2519c909c93569", func := "loop.example/g01245/laws.FnExactNumberOfPoly", spec := "fnExactNumberOfPoly", unfollowed := true, recurses := true, apart := false }
def FnExactNumberOfPolySaid : Prop := fnExactNumberOfPolyRow.holds Try.pinned (OpenSpec.ofChange fnExactNumberOfPolySpec)

/-- ITS FALSE NEIGHBOUR: 'it returns false'. Refute it at one input. -/
def fnExactNumberOfPolyWrong : ChangeSpec := { name := "fnExactNumberOfPoly", fn := fun _ => fun
  | [d1, d2] => { results := [.lit (.bool false)], args := [d1, d2] }
  | _ => none }
def FnExactNumberOfPolyWrongFalsely : Prop := fnExactNumberOfPolyRow.holds Try.pinned (OpenSpec.ofChange fnExactNumberOfPolyWrong)

/-- 'laws.FnExactParsePoly': WHATEVER THE INPUT: true; the input reads as it did. -/
def fnExactParsePolySpec : ChangeSpec := { name := "fnExactParsePoly", fn := fun _ => fun
  | [d1, d2] => { results := [.lit (.bool true)], args := [d1, d2] }
  | _ => none }
def fnExactParsePolyRow : OpenClaim := { program := "ytkkgbdgialpcaaa", sum := "755fab9763cc867d89ea43f5c4afeb841fad8f9ca5f0549d6b2519c909c93569", func := "loop.example/g01245/laws.FnExactParsePoly", spec := "fnExactParsePoly", unfollowed := true, recurses := true, apart := false }
def FnExactParsePolySaid : Prop := fnExactParsePolyRow.holds Try.pinned (OpenSpec.ofChange fnExactParsePolySpec)

/-- ITS FALSE NEIGHBOUR: 'it returns false'. Refute it at one input. -/
def fnExactParsePolyWrong : ChangeSpec := { name := "fnExactParsePoly", fn := fun _ => fun
  | [d1, d2] => { results := [.lit (.bool false)], args := [d1, d2] }
  | _ => none }
def FnExactParsePolyWrongFalsely : Prop := fnExactParsePolyRow.holds Try.pinned (OpenSpec.ofChange fnExactParsePolyWrong)

/-- 'laws.FnExactCompanionOf': WHATEVER THE INPUT: true; the input reads as it did. -/
def fnExactCompanionOfSpec : ChangeSpec := { name := "fnExactCompanionOf", fn := fun _ => fun
  | [d1, d2] => { results := [.lit (.bool true)], args := [d1, d2] }
  | _ => none }
def fnExactCompanionOfRow : OpenClaim := { program := "ytkkgbdgialpcaaa", sum := "755fab9763cc867d89ea43f5c4afeb841fad8f9ca5f0549d6b2519c909c93569", func := "loop.example/g01245/laws.FnExactCompanionOf", spec := "fnExactCompanionOf", unfollowed := true, recurses := true, apart := false }
def FnExactCompanionOfSaid : Prop := fnExactCompanionOfRow.holds Try.pinned (OpenSpec.ofChange fnExactCompanionOfSpec)

/-- ITS FALSE NEIGHBOUR: 'it returns false'. Refute it at one input. -/
def fnExactCompanionOfWrong : ChangeSpec := { name := "fnExactCompanionOf", fn := fun _ => fun
  | [d1, d2] => { results := [.lit (.bool false)], args := [d1, d2] }
  | _ => none }
def FnExactCompanionOfWrongFalsely : Prop := fnExactCompanionOfRow.holds Try.pinned (OpenSpec.ofChange fnExactCompanionOfWrong)

/- THE SECOND FORM. 'bulk': how many values and letters a reading holds, each counted each time it is reached (what is shared counts as often as it is met; a slice's spare places count too). A statement '..UptoSaid' is the law's where the arguments, and the package variables that the reading takes, are together of bulk at most 1048576: NARROWER than '..Said'. Prove '..Said' where nothing that the law and all that it calls make is longer than what came in: it says more and counts as full. Else prove '..UptoSaid'. A law counts once. -/
mutual
def uptoBulk {H : Type} : DataW H → Nat
  | .lit (.string bytes) => bytes.length + 1
  | .lit _ => 1
  | .nil => 1
  | .ptr d => uptoBulk d + 1
  | .slice elems spare => uptoBulkAll elems + uptoBulkAll spare + 1
  | .agg parts => uptoBulkAll parts + 1
  | .iface _ d => uptoBulk d + 1
  | .map entries => uptoBulkEntries entries + 1
  | .held _ => 1
def uptoBulkAll {H : Type} : List (DataW H) → Nat
  | [] => 0
  | d :: r => uptoBulk d + uptoBulkAll r
def uptoBulkEntries {H : Type} : List (Lit × DataW H) → Nat
  | [] => 0
  | x :: r => uptoBulkEntry x + uptoBulkEntries r
def uptoBulkEntry {H : Type} : Lit × DataW H → Nat
  | (.string bytes, d) => bytes.length + uptoBulk d + 1
  | (_, d) => uptoBulk d + 1
 end
def uptoSmall : (H : Type) → List (DataW H) → Bool := fun _ ds => decide (uptoBulkAll ds ≤ 1048576)
def OpenSpec.upto (s : _root_.Go.ChangeSpec) : _root_.Go.OpenSpec := { _root_.Go.OpenSpec.ofChange s with cond := some uptoSmall }

/-- 'laws.FnExactConstants', WHERE WHAT IT READS IS OF BULK AT MOST 1048576: true; the input reads as it did. -/
def fnExactConstantsUptoRow : OpenClaim := { program := "ytkkgbdgialpcaaa", sum := "755fab9763cc867d89ea43f5c4afeb841fad8f9ca5f0549d6b2519c909c93569", func := "loop.example/g01245/laws.FnExactConstants", spec := "fnExactConstants", apart := false, narrowed := true }
def FnExactConstantsUptoSaid : Prop := fnExactConstantsUptoRow.holds Try.pinned (OpenSpec.upto fnExactConstantsSpec)

/-- 'laws.FnExactIsPoly', WHERE WHAT IT READS IS OF BULK AT MOST 1048576: true; the input reads as it did. -/
def fnExactIsPolyUptoRow : OpenClaim := { program := "ytkkgbdgialpcaaa", sum := "755fab9763cc867d89ea43f5c4afeb841fad8f9ca5f0549d6b2519c909c93569", func := "loop.example/g01245/laws.FnExactIsPoly", spec := "fnExactIsPoly", unfollowed := true, recurses := true, apart := false, narrowed := true }
def FnExactIsPolyUptoSaid : Prop := fnExactIsPolyUptoRow.holds Try.pinned (OpenSpec.upto fnExactIsPolySpec)

/-- 'laws.FnExactIsSquare', WHERE WHAT IT READS IS OF BULK AT MOST 1048576: true; the input reads as it did. -/
def fnExactIsSquareUptoRow : OpenClaim := { program := "ytkkgbdgialpcaaa", sum := "755fab9763cc867d89ea43f5c4afeb841fad8f9ca5f0549d6b2519c909c93569", func := "loop.example/g01245/laws.FnExactIsSquare", spec := "fnExactIsSquare", apart := false, narrowed := true }
def FnExactIsSquareUptoSaid : Prop := fnExactIsSquareUptoRow.holds Try.pinned (OpenSpec.upto fnExactIsSquareSpec)

/-- 'laws.FnExactCountIrreducibles', WHERE WHAT IT READS IS OF BULK AT MOST 1048576: true; the input reads as it did. -/
def fnExactCountIrreduciblesUptoRow : OpenClaim := { program := "ytkkgbdgialpcaaa", sum := "755fab9763cc867d89ea43f5c4afeb841fad8f9ca5f0549d6b2519c909c93569", func := "loop.example/g01245/laws.FnExactCountIrreducibles", spec := "fnExactCountIrreducibles", apart := false, narrowed := true }
def FnExactCountIrreduciblesUptoSaid : Prop := fnExactCountIrreduciblesUptoRow.holds Try.pinned (OpenSpec.upto fnExactCountIrreduciblesSpec)

/-- 'laws.FnExactDerivativeOf', WHERE WHAT IT READS IS OF BULK AT MOST 1048576: true; the input reads as it did. -/
def fnExactDerivativeOfUptoRow : OpenClaim := { program := "ytkkgbdgialpcaaa", sum := "755fab9763cc867d89ea43f5c4afeb841fad8f9ca5f0549d6b2519c909c93569", func := "loop.example/g01245/laws.FnExactDerivativeOf", spec := "fnExactDerivativeOf", unfollowed := true, recurses := true, apart := false, narrowed := true }
def FnExactDerivativeOfUptoSaid : Prop := fnExactDerivativeOfUptoRow.holds Try.pinned (OpenSpec.upto fnExactDerivativeOfSpec)

/-- 'laws.FnExactDegreeOf', WHERE WHAT IT READS IS OF BULK AT MOST 1048576: true; the input reads as it did. -/
def fnExactDegreeOfUptoRow : OpenClaim := { program := "ytkkgbdgialpcaaa", sum := "755fab9763cc867d89ea43f5c4afeb841fad8f9ca5f0549d6b2519c909c93569", func := "loop.example/g01245/laws.FnExactDegreeOf", spec := "fnExactDegreeOf", unfollowed := true, recurses := true, apart := false, narrowed := true }
def FnExactDegreeOfUptoSaid : Prop := fnExactDegreeOfUptoRow.holds Try.pinned (OpenSpec.upto fnExactDegreeOfSpec)

/-- 'laws.FnExactKernelOfPoly', WHERE WHAT IT READS IS OF BULK AT MOST 1048576: true; the input reads as it did. -/
def fnExactKernelOfPolyUptoRow : OpenClaim := { program := "ytkkgbdgialpcaaa", sum := "755fab9763cc867d89ea43f5c4afeb841fad8f9ca5f0549d6b2519c909c93569", func := "loop.example/g01245/laws.FnExactKernelOfPoly", spec := "fnExactKernelOfPoly", unfollowed := true, recurses := true, apart := false, narrowed := true }
def FnExactKernelOfPolyUptoSaid : Prop := fnExactKernelOfPolyUptoRow.holds Try.pinned (OpenSpec.upto fnExactKernelOfPolySpec)

/-- 'laws.FnExactValueAt', WHERE WHAT IT READS IS OF BULK AT MOST 1048576: true; the input reads as it did. -/
def fnExactValueAtUptoRow : OpenClaim := { program := "ytkkgbdgialpcaaa", sum := "755fab9763cc867d89ea43f5c4afeb841fad8f9ca5f0549d6b2519c909c93569", func := "loop.example/g01245/laws.FnExactValueAt", spec := "fnExactValueAt", unfollowed := true, recurses := true, apart := false, narrowed := true }
def FnExactValueAtUptoSaid : Prop := fnExactValueAtUptoRow.holds Try.pinned (OpenSpec.upto fnExactValueAtSpec)

/-- 'laws.FnExactPolyText', WHERE WHAT IT READS IS OF BULK AT MOST 1048576: true; the input reads as it did. -/
def fnExactPolyTextUptoRow : OpenClaim := { program := "ytkkgbdgialpcaaa", sum := "755fab9763cc867d89ea43f5c4afeb841fad8f9ca5f0549d6b2519c909c93569", func := "loop.example/g01245/laws.FnExactPolyText", spec := "fnExactPolyText", unfollowed := true, recurses := true, apart := false, narrowed := true }
def FnExactPolyTextUptoSaid : Prop := fnExactPolyTextUptoRow.holds Try.pinned (OpenSpec.upto fnExactPolyTextSpec)

/-- 'laws.FnExactNumberOfPoly', WHERE WHAT IT READS IS OF BULK AT MOST 1048576: true; the input reads as it did. -/
def fnExactNumberOfPolyUptoRow : OpenClaim := { program := "ytkkgbdgialpcaaa", sum := "755fab9763cc867d89ea43f5c4afeb841fad8f9ca5f0549d6b2519c909c93569", func := "loop.example/g01245/laws.FnExactNumberOfPoly", spec := "fnExactNumberOfPoly", unfollowed := true, recurses := true, apart := false, narrowed := true }
def FnExactNumberOfPolyUptoSaid : Prop := fnExactNumberOfPolyUptoRow.holds Try.pinned (OpenSpec.upto fnExactNumberOfPolySpec)

/-- 'laws.FnExactParsePoly', WHERE WHAT IT READS IS OF BULK AT MOST 1048576: true; the input reads as it did. -/
def fnExactParsePolyUptoRow : OpenClaim := { program := "ytkkgbdgialpcaaa", sum := "755fab9763cc867d89ea43f5c4afeb841fad8f9ca5f0549d6b2519c909c93569", func := "loop.example/g01245/laws.FnExactParsePoly", spec := "fnExactParsePoly", unfollowed := true, recurses := true, apart := false, narrowed := true }
def FnExactParsePolyUptoSaid : Prop := fnExactParsePolyUptoRow.holds Try.pinned (OpenSpec.upto fnExactParsePolySpec)

/-- 'laws.FnExactCompanionOf', WHERE WHAT IT READS IS OF BULK AT MOST 1048576: true; the input reads as it did. -/
def fnExactCompanionOfUptoRow : OpenClaim := { program := "ytkkgbdgialpcaaa", sum := "755fab9763cc867d89ea43f5c4afeb841fad8f9ca5f0549d6b2519c909c93569", func := "loop.example/g01245/laws.FnExactCompanionOf", spec := "fnExactCompanionOf", unfollowed := true, recurses := true, apart := false, narrowed := true }
def FnExactCompanionOfUptoSaid : Prop := fnExactCompanionOfUptoRow.holds Try.pinned (OpenSpec.upto fnExactCompanionOfSpec)

end Rows
end Go.Proofs.Ytkkgbdgialpcaaa
