/-
  No cell of these rows narrows 'for every input' (looked for: loops, veiled, ifaces, maps, wideKeys, modest, calm, conditions, laid).
  DERIVED. THE GIVEN ROWS OF THIS SEAT. 6 by the template 'for every input the law returns true; each argument reads behind the call as it read before'; 0 by the template 'total and deterministic' (their statements: YtnkkkgaojhkniabTotals.lean).
  GIVEN WITH THE SEED: the statements are not yours to turn. If you find one false, say at which input.
  Laid BY PROGRAM, IN A SANDBOX (cutbox-rows.mjs): the forced cells as the released guide's own fill.sh prints them over the translation efffc89b9236312c… (all of the seat's roots in one cut). By AI agents, Wed Nov 11 2026. No macro, syntax, notation, axiom, sorry.
-/
import Derived.Test.YtnkkkgaojhkniabChecked
import GoSem.Claim
import GoSem.ClaimJoined
import GoSem.ClaimMapViews
import Derived.JoinedTies
import Derived.KernelRfl
namespace Go.Proofs.Ytnkkkgaojhkniab
/- THE CELL 'sum', in the pinned program and in every row, IS THE sha256 OF THE DUMP (.gsa) THAT YtnkkkgaojhkniabProg.lean LOADS. Nothing in Lean hashes anything: it is a label: what it is worth is what the hold of that sum in a sandbox is worth. -/
noncomputable def Try.pinned : Pinned := { name := "ytnkkkgaojhkniab", sum := "efffc89b9236312cad276e456ff79c544fd56cf01f9ad91df9ddc459027fa689", checked := Try.checked }
namespace Rows
def none {H : Type} : Left H := { results := [], args := [] }

/-- 'laws.FnExactLeastOf': WHATEVER THE INPUT: true; the input reads as it did. -/
def fnExactLeastOfSpec : ChangeSpec := { name := "fnExactLeastOf", fn := fun _ => fun
  | [d1, d2, d3] => { results := [.lit (.bool true)], args := [d1, d2, d3] }
  | _ => none }
def fnExactLeastOfRow : OpenClaim := { program := "ytnkkkgaojhkniab", sum := "efffc89b9236312cad276e456ff79c544fd56cf01f9ad91df9ddc459027fa689", func := "loop.example/g01245/laws.FnExactLeastOf", spec := "fnExactLeastOf", recurses := true, apart := false }
def FnExactLeastOfSaid : Prop := fnExactLeastOfRow.holds Try.pinned (OpenSpec.ofChange fnExactLeastOfSpec)

/-- ITS FALSE NEIGHBOUR: 'it returns false'. Refute it at one input. -/
def fnExactLeastOfWrong : ChangeSpec := { name := "fnExactLeastOf", fn := fun _ => fun
  | [d1, d2, d3] => { results := [.lit (.bool false)], args := [d1, d2, d3] }
  | _ => none }
def FnExactLeastOfWrongFalsely : Prop := fnExactLeastOfRow.holds Try.pinned (OpenSpec.ofChange fnExactLeastOfWrong)

/-- 'laws.FnExactAreSimilar': WHATEVER THE INPUT: true; the input reads as it did. -/
def fnExactAreSimilarSpec : ChangeSpec := { name := "fnExactAreSimilar", fn := fun _ => fun
  | [d1, d2, d3, d4] => { results := [.lit (.bool true)], args := [d1, d2, d3, d4] }
  | _ => none }
def fnExactAreSimilarRow : OpenClaim := { program := "ytnkkkgaojhkniab", sum := "efffc89b9236312cad276e456ff79c544fd56cf01f9ad91df9ddc459027fa689", func := "loop.example/g01245/laws.FnExactAreSimilar", spec := "fnExactAreSimilar", unfollowed := true, recurses := true, apart := false }
def FnExactAreSimilarSaid : Prop := fnExactAreSimilarRow.holds Try.pinned (OpenSpec.ofChange fnExactAreSimilarSpec)

/-- ITS FALSE NEIGHBOUR: 'it returns false'. Refute it at one input. -/
def fnExactAreSimilarWrong : ChangeSpec := { name := "fnExactAreSimilar", fn := fun _ => fun
  | [d1, d2, d3, d4] => { results := [.lit (.bool false)], args := [d1, d2, d3, d4] }
  | _ => none }
def FnExactAreSimilarWrongFalsely : Prop := fnExactAreSimilarRow.holds Try.pinned (OpenSpec.ofChange fnExactAreSimilarWrong)

/-- 'laws.FnExactCharacteristicOf': WHATEVER THE INPUT: true; the input reads as it did. -/
def fnExactCharacteristicOfSpec : ChangeSpec := { name := "fnExactCharacteristicOf", fn := fun _ => fun
  | [d1, d2, d3] => { results := [.lit (.bool true)], args := [d1, d2, d3] }
  | _ => none }
def fnExactCharacteristicOfRow : OpenClaim := { program := "ytnkkkgaojhkniab", sum := "efffc89b9236312cad276e456ff79c544fd56cf01f9ad91df9ddc459027fa689", func := "loop.example/g01245/laws.FnExactCharacteristicOf", spec := "fnExactCharacteristicOf", recurses := true, apart := false }
def FnExactCharacteristicOfSaid : Prop := fnExactCharacteristicOfRow.holds Try.pinned (OpenSpec.ofChange fnExactCharacteristicOfSpec)

/-- ITS FALSE NEIGHBOUR: 'it returns false'. Refute it at one input. -/
def fnExactCharacteristicOfWrong : ChangeSpec := { name := "fnExactCharacteristicOf", fn := fun _ => fun
  | [d1, d2, d3] => { results := [.lit (.bool false)], args := [d1, d2, d3] }
  | _ => none }
def FnExactCharacteristicOfWrongFalsely : Prop := fnExactCharacteristicOfRow.holds Try.pinned (OpenSpec.ofChange fnExactCharacteristicOfWrong)

/-- 'laws.FnExactIsCyclicModule': WHATEVER THE INPUT: true; the input reads as it did. -/
def fnExactIsCyclicModuleSpec : ChangeSpec := { name := "fnExactIsCyclicModule", fn := fun _ => fun
  | [d1, d2, d3] => { results := [.lit (.bool true)], args := [d1, d2, d3] }
  | _ => none }
def fnExactIsCyclicModuleRow : OpenClaim := { program := "ytnkkkgaojhkniab", sum := "efffc89b9236312cad276e456ff79c544fd56cf01f9ad91df9ddc459027fa689", func := "loop.example/g01245/laws.FnExactIsCyclicModule", spec := "fnExactIsCyclicModule", unfollowed := true, recurses := true, apart := false }
def FnExactIsCyclicModuleSaid : Prop := fnExactIsCyclicModuleRow.holds Try.pinned (OpenSpec.ofChange fnExactIsCyclicModuleSpec)

/-- ITS FALSE NEIGHBOUR: 'it returns false'. Refute it at one input. -/
def fnExactIsCyclicModuleWrong : ChangeSpec := { name := "fnExactIsCyclicModule", fn := fun _ => fun
  | [d1, d2, d3] => { results := [.lit (.bool false)], args := [d1, d2, d3] }
  | _ => none }
def FnExactIsCyclicModuleWrongFalsely : Prop := fnExactIsCyclicModuleRow.holds Try.pinned (OpenSpec.ofChange fnExactIsCyclicModuleWrong)

/-- 'laws.FnExactInvariantFactors': WHATEVER THE INPUT: true; the input reads as it did. -/
def fnExactInvariantFactorsSpec : ChangeSpec := { name := "fnExactInvariantFactors", fn := fun _ => fun
  | [d1, d2, d3] => { results := [.lit (.bool true)], args := [d1, d2, d3] }
  | _ => none }
def fnExactInvariantFactorsRow : OpenClaim := { program := "ytnkkkgaojhkniab", sum := "efffc89b9236312cad276e456ff79c544fd56cf01f9ad91df9ddc459027fa689", func := "loop.example/g01245/laws.FnExactInvariantFactors", spec := "fnExactInvariantFactors", unfollowed := true, recurses := true, apart := false }
def FnExactInvariantFactorsSaid : Prop := fnExactInvariantFactorsRow.holds Try.pinned (OpenSpec.ofChange fnExactInvariantFactorsSpec)

/-- ITS FALSE NEIGHBOUR: 'it returns false'. Refute it at one input. -/
def fnExactInvariantFactorsWrong : ChangeSpec := { name := "fnExactInvariantFactors", fn := fun _ => fun
  | [d1, d2, d3] => { results := [.lit (.bool false)], args := [d1, d2, d3] }
  | _ => none }
def FnExactInvariantFactorsWrongFalsely : Prop := fnExactInvariantFactorsRow.holds Try.pinned (OpenSpec.ofChange fnExactInvariantFactorsWrong)

/-- 'laws.FnExactModuleGenerator': WHATEVER THE INPUT: true; the input reads as it did. -/
def fnExactModuleGeneratorSpec : ChangeSpec := { name := "fnExactModuleGenerator", fn := fun _ => fun
  | [d1, d2, d3] => { results := [.lit (.bool true)], args := [d1, d2, d3] }
  | _ => none }
def fnExactModuleGeneratorRow : OpenClaim := { program := "ytnkkkgaojhkniab", sum := "efffc89b9236312cad276e456ff79c544fd56cf01f9ad91df9ddc459027fa689", func := "loop.example/g01245/laws.FnExactModuleGenerator", spec := "fnExactModuleGenerator", inPlace := ["slices.overlaps[loop.example/g01245/impl.row]"], unfollowed := true, recurses := true, apart := false }
def FnExactModuleGeneratorSaid : Prop := fnExactModuleGeneratorRow.holds Try.pinned (OpenSpec.ofChange fnExactModuleGeneratorSpec)

/-- ITS FALSE NEIGHBOUR: 'it returns false'. Refute it at one input. -/
def fnExactModuleGeneratorWrong : ChangeSpec := { name := "fnExactModuleGenerator", fn := fun _ => fun
  | [d1, d2, d3] => { results := [.lit (.bool false)], args := [d1, d2, d3] }
  | _ => none }
def FnExactModuleGeneratorWrongFalsely : Prop := fnExactModuleGeneratorRow.holds Try.pinned (OpenSpec.ofChange fnExactModuleGeneratorWrong)

/- THE SECOND FORM. 'bulk': how many values and letters a reading holds, each counted each time it is reached (what is shared counts as often as it is met; a slice's spare places count too). A statement '..UptoSaid' is the law's where the arguments, and the package variables that the reading takes, are together of bulk at most 1048576: NARROWER than '..Said'. Prove '..Said' where nothing that the law and all that it calls make is longer than what came in: it says more and counts as full. Else prove '..UptoSaid'. A law counts once. -/
mutual
def uptoBulk {H : Type} : DataW H → Nat
  | .lit (.string bytes) => bytes.length + 1
  | .lit _ => 1
  | .nil => 1
  | .ptr d => uptoBulk d + 1
  | .slice elems spare => uptoBulkAll elems + uptoBulkAll spare + 1
  | .agg parts => uptoBulkAll parts + 1
  | .iface _ d => uptoBulk d + 1
  | .map entries => uptoBulkEntries entries + 1
  | .held _ => 1
def uptoBulkAll {H : Type} : List (DataW H) → Nat
  | [] => 0
  | d :: r => uptoBulk d + uptoBulkAll r
def uptoBulkEntries {H : Type} : List (Lit × DataW H) → Nat
  | [] => 0
  | x :: r => uptoBulkEntry x + uptoBulkEntries r
def uptoBulkEntry {H : Type} : Lit × DataW H → Nat
  | (.string bytes, d) => bytes.length + uptoBulk d + 1
  | (_, d) => uptoBulk d + 1
 end
def uptoSmall : (H : Type) → List (DataW H) → Bool := fun _ ds => decide (uptoBulkAll ds ≤ 1048576)
def OpenSpec.upto (s : _root_.Go.ChangeSpec) : _root_.Go.OpenSpec := { _root_.Go.OpenSpec.ofChange s with cond := some uptoSmall }

/-- 'laws.FnExactLeastOf', WHERE WHAT IT READS IS OF BULK AT MOST 1048576: true; the input reads as it did. -/
def fnExactLeastOfUptoRow : OpenClaim := { program := "ytnkkkgaojhkniab", sum := "efffc89b9236312cad276e456ff79c544fd56cf01f9ad91df9ddc459027fa689", func := "loop.example/g01245/laws.FnExactLeastOf", spec := "fnExactLeastOf", recurses := true, apart := false, narrowed := true }
def FnExactLeastOfUptoSaid : Prop := fnExactLeastOfUptoRow.holds Try.pinned (OpenSpec.upto fnExactLeastOfSpec)

/-- 'laws.FnExactAreSimilar', WHERE WHAT IT READS IS OF BULK AT MOST 1048576: true; the input reads as it did. -/
def fnExactAreSimilarUptoRow : OpenClaim := { program := "ytnkkkgaojhkniab", sum := "efffc89b9236312cad276e456ff79c544fd56cf01f9ad91df9ddc459027fa689", func := "loop.example/g01245/laws.FnExactAreSimilar", spec := "fnExactAreSimilar", unfollowed := true, recurses := true, apart := false, narrowed := true }
def FnExactAreSimilarUptoSaid : Prop := fnExactAreSimilarUptoRow.holds Try.pinned (OpenSpec.upto fnExactAreSimilarSpec)

/-- 'laws.FnExactCharacteristicOf', WHERE WHAT IT READS IS OF BULK AT MOST 1048576: true; the input reads as it did. -/
def fnExactCharacteristicOfUptoRow : OpenClaim := { program := "ytnkkkgaojhkniab", sum := "efffc89b9236312cad276e456ff79c544fd56cf01f9ad91df9ddc459027fa689", func := "loop.example/g01245/laws.FnExactCharacteristicOf", spec := "fnExactCharacteristicOf", recurses := true, apart := false, narrowed := true }
def FnExactCharacteristicOfUptoSaid : Prop := fnExactCharacteristicOfUptoRow.holds Try.pinned (OpenSpec.upto fnExactCharacteristicOfSpec)

/-- 'laws.FnExactIsCyclicModule', WHERE WHAT IT READS IS OF BULK AT MOST 1048576: true; the input reads as it did. -/
def fnExactIsCyclicModuleUptoRow : OpenClaim := { program := "ytnkkkgaojhkniab", sum := "efffc89b9236312cad276e456ff79c544fd56cf01f9ad91df9ddc459027fa689", func := "loop.example/g01245/laws.FnExactIsCyclicModule", spec := "fnExactIsCyclicModule", unfollowed := true, recurses := true, apart := false, narrowed := true }
def FnExactIsCyclicModuleUptoSaid : Prop := fnExactIsCyclicModuleUptoRow.holds Try.pinned (OpenSpec.upto fnExactIsCyclicModuleSpec)

/-- 'laws.FnExactInvariantFactors', WHERE WHAT IT READS IS OF BULK AT MOST 1048576: true; the input reads as it did. -/
def fnExactInvariantFactorsUptoRow : OpenClaim := { program := "ytnkkkgaojhkniab", sum := "efffc89b9236312cad276e456ff79c544fd56cf01f9ad91df9ddc459027fa689", func := "loop.example/g01245/laws.FnExactInvariantFactors", spec := "fnExactInvariantFactors", unfollowed := true, recurses := true, apart := false, narrowed := true }
def FnExactInvariantFactorsUptoSaid : Prop := fnExactInvariantFactorsUptoRow.holds Try.pinned (OpenSpec.upto fnExactInvariantFactorsSpec)

/-- 'laws.FnExactModuleGenerator', WHERE WHAT IT READS IS OF BULK AT MOST 1048576: true; the input reads as it did. -/
def fnExactModuleGeneratorUptoRow : OpenClaim := { program := "ytnkkkgaojhkniab", sum := "efffc89b9236312cad276e456ff79c544fd56cf01f9ad91df9ddc459027fa689", func := "loop.example/g01245/laws.FnExactModuleGenerator", spec := "fnExactModuleGenerator", inPlace := ["slices.overlaps[loop.example/g01245/impl.row]"], unfollowed := true, recurses := true, apart := false, narrowed := true }
def FnExactModuleGeneratorUptoSaid : Prop := fnExactModuleGeneratorUptoRow.holds Try.pinned (OpenSpec.upto fnExactModuleGeneratorSpec)

end Rows
end Go.Proofs.Ytnkkkgaojhkniab
