/-
  No cell of these rows narrows 'for every input' (looked for: loops, veiled, ifaces, maps, wideKeys, modest, calm, conditions, laid).
  DERIVED. THE GIVEN ROWS OF THIS SEAT. 6 by the template 'for every input the law returns true; each argument reads behind the call as it read before'; 0 by the template 'total and deterministic' (their statements: YtionaenmjndncaaTotals.lean).
  GIVEN WITH THE SEED: the statements are not yours to turn. If you find one false, say at which input.
  Laid BY PROGRAM, IN A SANDBOX (cutbox-rows.mjs): the forced cells as the released guide's own fill.sh prints them over the translation 4365d4cb06563b5f… (all of the seat's roots in one cut). By AI agents, Wed Nov 11 2026. No macro, syntax, notation, axiom, sorry.
-/
import Derived.Test.YtionaenmjndncaaChecked
import GoSem.Claim
import GoSem.ClaimJoined
import GoSem.ClaimMapViews
import Derived.JoinedTies
import Derived.KernelRfl
namespace Go.Proofs.Ytionaenmjndncaa
/- THE CELL 'sum', in the pinned program and in every row, IS THE sha256 OF THE DUMP (.gsa) THAT YtionaenmjndncaaProg.lean LOADS. Nothing in Lean hashes anything: it is a label: what it is worth is what the hold of that sum in a sandbox is worth. -/
noncomputable def Try.pinned : Pinned := { name := "ytionaenmjndncaa", sum := "4365d4cb06563b5ff480d1dc9cc753b45a12be6e2921bbf3b7b3ebbbfa5ddb9a", checked := Try.checked }
namespace Rows
def none {H : Type} : Left H := { results := [], args := [] }

/-- 'laws.FnExactRootsOf': WHATEVER THE INPUT: true; the input reads as it did. -/
def fnExactRootsOfSpec : ChangeSpec := { name := "fnExactRootsOf", fn := fun _ => fun
  | [d1, d2] => { results := [.lit (.bool true)], args := [d1, d2] }
  | _ => none }
def fnExactRootsOfRow : OpenClaim := { program := "ytionaenmjndncaa", sum := "4365d4cb06563b5ff480d1dc9cc753b45a12be6e2921bbf3b7b3ebbbfa5ddb9a", func := "loop.example/g01245/laws.FnExactRootsOf", spec := "fnExactRootsOf", unfollowed := true, recurses := true, apart := false }
def FnExactRootsOfSaid : Prop := fnExactRootsOfRow.holds Try.pinned (OpenSpec.ofChange fnExactRootsOfSpec)

/-- ITS FALSE NEIGHBOUR: 'it returns false'. Refute it at one input. -/
def fnExactRootsOfWrong : ChangeSpec := { name := "fnExactRootsOf", fn := fun _ => fun
  | [d1, d2] => { results := [.lit (.bool false)], args := [d1, d2] }
  | _ => none }
def FnExactRootsOfWrongFalsely : Prop := fnExactRootsOfRow.holds Try.pinned (OpenSpec.ofChange fnExactRootsOfWrong)

/-- 'laws.FnExactBracketOf': WHATEVER THE INPUT: true; the input reads as it did. -/
def fnExactBracketOfSpec : ChangeSpec := { name := "fnExactBracketOf", fn := fun _ => fun
  | [d1, d2] => { results := [.lit (.bool true)], args := [d1, d2] }
  | _ => none }
def fnExactBracketOfRow : OpenClaim := { program := "ytionaenmjndncaa", sum := "4365d4cb06563b5ff480d1dc9cc753b45a12be6e2921bbf3b7b3ebbbfa5ddb9a", func := "loop.example/g01245/laws.FnExactBracketOf", spec := "fnExactBracketOf", apart := false }
def FnExactBracketOfSaid : Prop := fnExactBracketOfRow.holds Try.pinned (OpenSpec.ofChange fnExactBracketOfSpec)

/-- ITS FALSE NEIGHBOUR: 'it returns false'. Refute it at one input. -/
def fnExactBracketOfWrong : ChangeSpec := { name := "fnExactBracketOf", fn := fun _ => fun
  | [d1, d2] => { results := [.lit (.bool false)], args := [d1, d2] }
  | _ => none }
def FnExactBracketOfWrongFalsely : Prop := fnExactBracketOfRow.holds Try.pinned (OpenSpec.ofChange fnExactBracketOfWrong)

/-- 'laws.FnExactRootPart': WHATEVER THE INPUT: true; the input reads as it did. -/
def fnExactRootPartSpec : ChangeSpec := { name := "fnExactRootPart", fn := fun _ => fun
  | [d1, d2] => { results := [.lit (.bool true)], args := [d1, d2] }
  | _ => none }
def fnExactRootPartRow : OpenClaim := { program := "ytionaenmjndncaa", sum := "4365d4cb06563b5ff480d1dc9cc753b45a12be6e2921bbf3b7b3ebbbfa5ddb9a", func := "loop.example/g01245/laws.FnExactRootPart", spec := "fnExactRootPart", unfollowed := true, recurses := true, apart := false }
def FnExactRootPartSaid : Prop := fnExactRootPartRow.holds Try.pinned (OpenSpec.ofChange fnExactRootPartSpec)

/-- ITS FALSE NEIGHBOUR: 'it returns false'. Refute it at one input. -/
def fnExactRootPartWrong : ChangeSpec := { name := "fnExactRootPart", fn := fun _ => fun
  | [d1, d2] => { results := [.lit (.bool false)], args := [d1, d2] }
  | _ => none }
def FnExactRootPartWrongFalsely : Prop := fnExactRootPartRow.holds Try.pinned (OpenSpec.ofChange fnExactRootPartWrong)

/-- 'laws.FnExactInverseModulo': WHATEVER THE INPUT: true; the input reads as it did. -/
def fnExactInverseModuloSpec : ChangeSpec := { name := "fnExactInverseModulo", fn := fun _ => fun
  | [d1, d2, d3] => { results := [.lit (.bool true)], args := [d1, d2, d3] }
  | _ => none }
def fnExactInverseModuloRow : OpenClaim := { program := "ytionaenmjndncaa", sum := "4365d4cb06563b5ff480d1dc9cc753b45a12be6e2921bbf3b7b3ebbbfa5ddb9a", func := "loop.example/g01245/laws.FnExactInverseModulo", spec := "fnExactInverseModulo", unfollowed := true, recurses := true, apart := false }
def FnExactInverseModuloSaid : Prop := fnExactInverseModuloRow.holds Try.pinned (OpenSpec.ofChange fnExactInverseModuloSpec)

/-- ITS FALSE NEIGHBOUR: 'it returns false'. Refute it at one input. -/
def fnExactInverseModuloWrong : ChangeSpec := { name := "fnExactInverseModulo", fn := fun _ => fun
  | [d1, d2, d3] => { results := [.lit (.bool false)], args := [d1, d2, d3] }
  | _ => none }
def FnExactInverseModuloWrongFalsely : Prop := fnExactInverseModuloRow.holds Try.pinned (OpenSpec.ofChange fnExactInverseModuloWrong)

/-- 'laws.FnExactLogarithmOf': WHATEVER THE INPUT: true; the input reads as it did. -/
def fnExactLogarithmOfSpec : ChangeSpec := { name := "fnExactLogarithmOf", fn := fun _ => fun
  | [d1, d2, d3, d4] => { results := [.lit (.bool true)], args := [d1, d2, d3, d4] }
  | _ => none }
def fnExactLogarithmOfRow : OpenClaim := { program := "ytionaenmjndncaa", sum := "4365d4cb06563b5ff480d1dc9cc753b45a12be6e2921bbf3b7b3ebbbfa5ddb9a", func := "loop.example/g01245/laws.FnExactLogarithmOf", spec := "fnExactLogarithmOf", unfollowed := true, recurses := true, apart := false }
def FnExactLogarithmOfSaid : Prop := fnExactLogarithmOfRow.holds Try.pinned (OpenSpec.ofChange fnExactLogarithmOfSpec)

/-- ITS FALSE NEIGHBOUR: 'it returns false'. Refute it at one input. -/
def fnExactLogarithmOfWrong : ChangeSpec := { name := "fnExactLogarithmOf", fn := fun _ => fun
  | [d1, d2, d3, d4] => { results := [.lit (.bool false)], args := [d1, d2, d3, d4] }
  | _ => none }
def FnExactLogarithmOfWrongFalsely : Prop := fnExactLogarithmOfRow.holds Try.pinned (OpenSpec.ofChange fnExactLogarithmOfWrong)

/-- 'laws.FnExactRestForTwo': WHATEVER THE INPUT: true; the input reads as it did. -/
def fnExactRestForTwoSpec : ChangeSpec := { name := "fnExactRestForTwo", fn := fun _ => fun
  | [d1, d2, d3, d4, d5] => { results := [.lit (.bool true)], args := [d1, d2, d3, d4, d5] }
  | _ => none }
def fnExactRestForTwoRow : OpenClaim := { program := "ytionaenmjndncaa", sum := "4365d4cb06563b5ff480d1dc9cc753b45a12be6e2921bbf3b7b3ebbbfa5ddb9a", func := "loop.example/g01245/laws.FnExactRestForTwo", spec := "fnExactRestForTwo", unfollowed := true, recurses := true, apart := false }
def FnExactRestForTwoSaid : Prop := fnExactRestForTwoRow.holds Try.pinned (OpenSpec.ofChange fnExactRestForTwoSpec)

/-- ITS FALSE NEIGHBOUR: 'it returns false'. Refute it at one input. -/
def fnExactRestForTwoWrong : ChangeSpec := { name := "fnExactRestForTwo", fn := fun _ => fun
  | [d1, d2, d3, d4, d5] => { results := [.lit (.bool false)], args := [d1, d2, d3, d4, d5] }
  | _ => none }
def FnExactRestForTwoWrongFalsely : Prop := fnExactRestForTwoRow.holds Try.pinned (OpenSpec.ofChange fnExactRestForTwoWrong)

/- THE SECOND FORM. 'bulk': how many values and letters a reading holds, each counted each time it is reached (what is shared counts as often as it is met; a slice's spare places count too). A statement '..UptoSaid' is the law's where the arguments, and the package variables that the reading takes, are together of bulk at most 1048576: NARROWER than '..Said'. Prove '..Said' where nothing that the law and all that it calls make is longer than what came in: it says more and counts as full. Else prove '..UptoSaid'. A law counts once. -/
mutual
def uptoBulk {H : Type} : DataW H → Nat
  | .lit (.string bytes) => bytes.length + 1
  | .lit _ => 1
  | .nil => 1
  | .ptr d => uptoBulk d + 1
  | .slice elems spare => uptoBulkAll elems + uptoBulkAll spare + 1
  | .agg parts => uptoBulkAll parts + 1
  | .iface _ d => uptoBulk d + 1
  | .map entries => uptoBulkEntries entries + 1
  | .held _ => 1
def uptoBulkAll {H : Type} : List (DataW H) → Nat
  | [] => 0
  | d :: r => uptoBulk d + uptoBulkAll r
def uptoBulkEntries {H : Type} : List (Lit × DataW H) → Nat
  | [] => 0
  | x :: r => uptoBulkEntry x + uptoBulkEntries r
def uptoBulkEntry {H : Type} : Lit × DataW H → Nat
  | (.string bytes, d) => bytes.length + uptoBulk d + 1
  | (_, d) => uptoBulk d + 1
 end
def uptoSmall : (H : Type) → List (DataW H) → Bool := fun _ ds => decide (uptoBulkAll ds ≤ 1048576)
def OpenSpec.upto (s : _root_.Go.ChangeSpec) : _root_.Go.OpenSpec := { _root_.Go.OpenSpec.ofChange s with cond := some uptoSmall }

/-- 'laws.FnExactRootsOf', WHERE WHAT IT READS IS OF BULK AT MOST 1048576: true; the input reads as it did. -/
def fnExactRootsOfUptoRow : OpenClaim := { program := "ytionaenmjndncaa", sum := "4365d4cb06563b5ff480d1dc9cc753b45a12be6e2921bbf3b7b3ebbbfa5ddb9a", func := "loop.example/g01245/laws.FnExactRootsOf", spec := "fnExactRootsOf", unfollowed := true, recurses := true, apart := false, narrowed := true }
def FnExactRootsOfUptoSaid : Prop := fnExactRootsOfUptoRow.holds Try.pinned (OpenSpec.upto fnExactRootsOfSpec)

/-- 'laws.FnExactBracketOf', WHERE WHAT IT READS IS OF BULK AT MOST 1048576: true; the input reads as it did. -/
def fnExactBracketOfUptoRow : OpenClaim := { program := "ytionaenmjndncaa", sum := "4365d4cb06563b5ff480d1dc9cc753b45a12be6e2921bbf3b7b3ebbbfa5ddb9a", func := "loop.example/g01245/laws.FnExactBracketOf", spec := "fnExactBracketOf", apart := false, narrowed := true }
def FnExactBracketOfUptoSaid : Prop := fnExactBracketOfUptoRow.holds Try.pinned (OpenSpec.upto fnExactBracketOfSpec)

/-- 'laws.FnExactRootPart', WHERE WHAT IT READS IS OF BULK AT MOST 1048576: true; the input reads as it did. -/
def fnExactRootPartUptoRow : OpenClaim := { program := "ytionaenmjndncaa", sum := "4365d4cb06563b5ff480d1dc9cc753b45a12be6e2921bbf3b7b3ebbbfa5ddb9a", func := "loop.example/g01245/laws.FnExactRootPart", spec := "fnExactRootPart", unfollowed := true, recurses := true, apart := false, narrowed := true }
def FnExactRootPartUptoSaid : Prop := fnExactRootPartUptoRow.holds Try.pinned (OpenSpec.upto fnExactRootPartSpec)

/-- 'laws.FnExactInverseModulo', WHERE WHAT IT READS IS OF BULK AT MOST 1048576: true; the input reads as it did. -/
def fnExactInverseModuloUptoRow : OpenClaim := { program := "ytionaenmjndncaa", sum := "4365d4cb06563b5ff480d1dc9cc753b45a12be6e2921bbf3b7b3ebbbfa5ddb9a", func := "loop.example/g01245/laws.FnExactInverseModulo", spec := "fnExactInverseModulo", unfollowed := true, recurses := true, apart := false, narrowed := true }
def FnExactInverseModuloUptoSaid : Prop := fnExactInverseModuloUptoRow.holds Try.pinned (OpenSpec.upto fnExactInverseModuloSpec)

/-- 'laws.FnExactLogarithmOf', WHERE WHAT IT READS IS OF BULK AT MOST 1048576: true; the input reads as it did. -/
def fnExactLogarithmOfUptoRow : OpenClaim := { program := "ytionaenmjndncaa", sum := "4365d4cb06563b5ff480d1dc9cc753b45a12be6e2921bbf3b7b3ebbbfa5ddb9a", func := "loop.example/g01245/laws.FnExactLogarithmOf", spec := "fnExactLogarithmOf", unfollowed := true, recurses := true, apart := false, narrowed := true }
def FnExactLogarithmOfUptoSaid : Prop := fnExactLogarithmOfUptoRow.holds Try.pinned (OpenSpec.upto fnExactLogarithmOfSpec)

/-- 'laws.FnExactRestForTwo', WHERE WHAT IT READS IS OF BULK AT MOST 1048576: true; the input reads as it did. -/
def fnExactRestForTwoUptoRow : OpenClaim := { program := "ytionaenmjndncaa", sum := "4365d4cb06563b5ff480d1dc9cc753b45a12be6e2921bbf3b7b3ebbbfa5ddb9a", func := "loop.example/g01245/laws.FnExactRestForTwo", spec := "fnExactRestForTwo", unfollowed := true, recurses := true, apart := false, narrowed := true }
def FnExactRestForTwoUptoSaid : Prop := fnExactRestForTwoUptoRow.holds Try.pinned (OpenSpec.upto fnExactRestForTwoSpec)

end Rows
end Go.Proofs.Ytionaenmjndncaa
