/-
  No cell of these rows narrows 'for every input' (looked for: loops, veiled, ifaces, maps, wideKeys, modest, calm, conditions, laid).
  DERIVED. THE GIVEN ROWS OF THIS SEAT. 12 by the template 'for every input the law returns true; each argument reads behind the call as it read before'; 0 by the template 'total and deterministic' (their statements: YthkkicanockhgaaTotals.lean).
  GIVEN WITH THE SEED: the statements are not yours to turn. If you find one false, say at which input.
  Laid BY PROGRAM, IN A SANDBOX (cutbox-rows.mjs): the forced cells as the released guide's own fill.sh prints them over the translation 08c2a0c28f40aaca… (all of the seat's roots in one cut). By AI agents, Wed Nov 11 2026. No macro, syntax, notation, axiom, sorry.
-/
import Derived.Test.YthkkicanockhgaaChecked
import GoSem.Claim
import GoSem.ClaimJoined
import GoSem.ClaimMapViews
import Derived.JoinedTies
import Derived.KernelRfl
namespace Go.Proofs.Ythkkicanockhgaa
/- THE CELL 'sum', in the pinned program and in every row, IS THE sha256 OF THE DUMP (.gsa) THAT YthkkicanockhgaaProg.lean LOADS. Nothing in Lean hashes anything: it is a label: what it is worth is what the hold of that sum in a sandbox is worth. -/
noncomputable def Try.pinned : Pinned := { name := "ythkkicanockhgaa", sum := "08c2a0c28f40aacaa5fe1551e1a2b778b71dff54c36a51c7f03910d47596e199", checked := Try.checked }
namespace Rows
def none {H : Type} : Left H := { results := [], args := [] }

/-- 'laws.FnExactAddPolys': WHATEVER THE INPUT: true; the input reads as it did. -/
def fnExactAddPolysSpec : ChangeSpec := { name := "fnExactAddPolys", fn := fun _ => fun
  | [d1, d2, d3] => { results := [.lit (.bool true)], args := [d1, d2, d3] }
  | _ => none }
def fnExactAddPolysRow : OpenClaim := { program := "ythkkicanockhgaa", sum := "08c2a0c28f40aacaa5fe1551e1a2b778b71dff54c36a51c7f03910d47596e199", func := "loop.example/g01245/laws.FnExactAddPolys", spec := "fnExactAddPolys", unfollowed := true, recurses := true, apart := false }
def FnExactAddPolysSaid : Prop := fnExactAddPolysRow.holds Try.pinned (OpenSpec.ofChange fnExactAddPolysSpec)

/-- ITS FALSE NEIGHBOUR: 'it returns false'. Refute it at one input. -/
def fnExactAddPolysWrong : ChangeSpec := { name := "fnExactAddPolys", fn := fun _ => fun
  | [d1, d2, d3] => { results := [.lit (.bool false)], args := [d1, d2, d3] }
  | _ => none }
def FnExactAddPolysWrongFalsely : Prop := fnExactAddPolysRow.holds Try.pinned (OpenSpec.ofChange fnExactAddPolysWrong)

/-- 'laws.FnExactSubtractPolys': WHATEVER THE INPUT: true; the input reads as it did. -/
def fnExactSubtractPolysSpec : ChangeSpec := { name := "fnExactSubtractPolys", fn := fun _ => fun
  | [d1, d2, d3] => { results := [.lit (.bool true)], args := [d1, d2, d3] }
  | _ => none }
def fnExactSubtractPolysRow : OpenClaim := { program := "ythkkicanockhgaa", sum := "08c2a0c28f40aacaa5fe1551e1a2b778b71dff54c36a51c7f03910d47596e199", func := "loop.example/g01245/laws.FnExactSubtractPolys", spec := "fnExactSubtractPolys", unfollowed := true, recurses := true, apart := false }
def FnExactSubtractPolysSaid : Prop := fnExactSubtractPolysRow.holds Try.pinned (OpenSpec.ofChange fnExactSubtractPolysSpec)

/-- ITS FALSE NEIGHBOUR: 'it returns false'. Refute it at one input. -/
def fnExactSubtractPolysWrong : ChangeSpec := { name := "fnExactSubtractPolys", fn := fun _ => fun
  | [d1, d2, d3] => { results := [.lit (.bool false)], args := [d1, d2, d3] }
  | _ => none }
def FnExactSubtractPolysWrongFalsely : Prop := fnExactSubtractPolysRow.holds Try.pinned (OpenSpec.ofChange fnExactSubtractPolysWrong)

/-- 'laws.FnExactMultiplyPolys': WHATEVER THE INPUT: true; the input reads as it did. -/
def fnExactMultiplyPolysSpec : ChangeSpec := { name := "fnExactMultiplyPolys", fn := fun _ => fun
  | [d1, d2, d3] => { results := [.lit (.bool true)], args := [d1, d2, d3] }
  | _ => none }
def fnExactMultiplyPolysRow : OpenClaim := { program := "ythkkicanockhgaa", sum := "08c2a0c28f40aacaa5fe1551e1a2b778b71dff54c36a51c7f03910d47596e199", func := "loop.example/g01245/laws.FnExactMultiplyPolys", spec := "fnExactMultiplyPolys", unfollowed := true, recurses := true, apart := false }
def FnExactMultiplyPolysSaid : Prop := fnExactMultiplyPolysRow.holds Try.pinned (OpenSpec.ofChange fnExactMultiplyPolysSpec)

/-- ITS FALSE NEIGHBOUR: 'it returns false'. Refute it at one input. -/
def fnExactMultiplyPolysWrong : ChangeSpec := { name := "fnExactMultiplyPolys", fn := fun _ => fun
  | [d1, d2, d3] => { results := [.lit (.bool false)], args := [d1, d2, d3] }
  | _ => none }
def FnExactMultiplyPolysWrongFalsely : Prop := fnExactMultiplyPolysRow.holds Try.pinned (OpenSpec.ofChange fnExactMultiplyPolysWrong)

/-- 'laws.FnExactBracketOf': WHATEVER THE INPUT: true; the input reads as it did. -/
def fnExactBracketOfSpec : ChangeSpec := { name := "fnExactBracketOf", fn := fun _ => fun
  | [d1, d2] => { results := [.lit (.bool true)], args := [d1, d2] }
  | _ => none }
def fnExactBracketOfRow : OpenClaim := { program := "ythkkicanockhgaa", sum := "08c2a0c28f40aacaa5fe1551e1a2b778b71dff54c36a51c7f03910d47596e199", func := "loop.example/g01245/laws.FnExactBracketOf", spec := "fnExactBracketOf", apart := false }
def FnExactBracketOfSaid : Prop := fnExactBracketOfRow.holds Try.pinned (OpenSpec.ofChange fnExactBracketOfSpec)

/-- ITS FALSE NEIGHBOUR: 'it returns false'. Refute it at one input. -/
def fnExactBracketOfWrong : ChangeSpec := { name := "fnExactBracketOf", fn := fun _ => fun
  | [d1, d2] => { results := [.lit (.bool false)], args := [d1, d2] }
  | _ => none }
def FnExactBracketOfWrongFalsely : Prop := fnExactBracketOfRow.holds Try.pinned (OpenSpec.ofChange fnExactBracketOfWrong)

/-- 'laws.FnExactRootsOf': WHATEVER THE INPUT: true; the input reads as it did. -/
def fnExactRootsOfSpec : ChangeSpec := { name := "fnExactRootsOf", fn := fun _ => fun
  | [d1, d2] => { results := [.lit (.bool true)], args := [d1, d2] }
  | _ => none }
def fnExactRootsOfRow : OpenClaim := { program := "ythkkicanockhgaa", sum := "08c2a0c28f40aacaa5fe1551e1a2b778b71dff54c36a51c7f03910d47596e199", func := "loop.example/g01245/laws.FnExactRootsOf", spec := "fnExactRootsOf", unfollowed := true, recurses := true, apart := false }
def FnExactRootsOfSaid : Prop := fnExactRootsOfRow.holds Try.pinned (OpenSpec.ofChange fnExactRootsOfSpec)

/-- ITS FALSE NEIGHBOUR: 'it returns false'. Refute it at one input. -/
def fnExactRootsOfWrong : ChangeSpec := { name := "fnExactRootsOf", fn := fun _ => fun
  | [d1, d2] => { results := [.lit (.bool false)], args := [d1, d2] }
  | _ => none }
def FnExactRootsOfWrongFalsely : Prop := fnExactRootsOfRow.holds Try.pinned (OpenSpec.ofChange fnExactRootsOfWrong)

/-- 'laws.FnExactDividePolys': WHATEVER THE INPUT: true; the input reads as it did. -/
def fnExactDividePolysSpec : ChangeSpec := { name := "fnExactDividePolys", fn := fun _ => fun
  | [d1, d2, d3] => { results := [.lit (.bool true)], args := [d1, d2, d3] }
  | _ => none }
def fnExactDividePolysRow : OpenClaim := { program := "ythkkicanockhgaa", sum := "08c2a0c28f40aacaa5fe1551e1a2b778b71dff54c36a51c7f03910d47596e199", func := "loop.example/g01245/laws.FnExactDividePolys", spec := "fnExactDividePolys", unfollowed := true, recurses := true, apart := false }
def FnExactDividePolysSaid : Prop := fnExactDividePolysRow.holds Try.pinned (OpenSpec.ofChange fnExactDividePolysSpec)

/-- ITS FALSE NEIGHBOUR: 'it returns false'. Refute it at one input. -/
def fnExactDividePolysWrong : ChangeSpec := { name := "fnExactDividePolys", fn := fun _ => fun
  | [d1, d2, d3] => { results := [.lit (.bool false)], args := [d1, d2, d3] }
  | _ => none }
def FnExactDividePolysWrongFalsely : Prop := fnExactDividePolysRow.holds Try.pinned (OpenSpec.ofChange fnExactDividePolysWrong)

/-- 'laws.FnExactComposePolys': WHATEVER THE INPUT: true; the input reads as it did. -/
def fnExactComposePolysSpec : ChangeSpec := { name := "fnExactComposePolys", fn := fun _ => fun
  | [d1, d2, d3] => { results := [.lit (.bool true)], args := [d1, d2, d3] }
  | _ => none }
def fnExactComposePolysRow : OpenClaim := { program := "ythkkicanockhgaa", sum := "08c2a0c28f40aacaa5fe1551e1a2b778b71dff54c36a51c7f03910d47596e199", func := "loop.example/g01245/laws.FnExactComposePolys", spec := "fnExactComposePolys", unfollowed := true, recurses := true, apart := false }
def FnExactComposePolysSaid : Prop := fnExactComposePolysRow.holds Try.pinned (OpenSpec.ofChange fnExactComposePolysSpec)

/-- ITS FALSE NEIGHBOUR: 'it returns false'. Refute it at one input. -/
def fnExactComposePolysWrong : ChangeSpec := { name := "fnExactComposePolys", fn := fun _ => fun
  | [d1, d2, d3] => { results := [.lit (.bool false)], args := [d1, d2, d3] }
  | _ => none }
def FnExactComposePolysWrongFalsely : Prop := fnExactComposePolysRow.holds Try.pinned (OpenSpec.ofChange fnExactComposePolysWrong)

/-- 'laws.FnExactRootPart': WHATEVER THE INPUT: true; the input reads as it did. -/
def fnExactRootPartSpec : ChangeSpec := { name := "fnExactRootPart", fn := fun _ => fun
  | [d1, d2] => { results := [.lit (.bool true)], args := [d1, d2] }
  | _ => none }
def fnExactRootPartRow : OpenClaim := { program := "ythkkicanockhgaa", sum := "08c2a0c28f40aacaa5fe1551e1a2b778b71dff54c36a51c7f03910d47596e199", func := "loop.example/g01245/laws.FnExactRootPart", spec := "fnExactRootPart", unfollowed := true, recurses := true, apart := false }
def FnExactRootPartSaid : Prop := fnExactRootPartRow.holds Try.pinned (OpenSpec.ofChange fnExactRootPartSpec)

/-- ITS FALSE NEIGHBOUR: 'it returns false'. Refute it at one input. -/
def fnExactRootPartWrong : ChangeSpec := { name := "fnExactRootPart", fn := fun _ => fun
  | [d1, d2] => { results := [.lit (.bool false)], args := [d1, d2] }
  | _ => none }
def FnExactRootPartWrongFalsely : Prop := fnExactRootPartRow.holds Try.pinned (OpenSpec.ofChange fnExactRootPartWrong)

/-- 'laws.FnExactPowerOf': WHATEVER THE INPUT: true; the input reads as it did. -/
def fnExactPowerOfSpec : ChangeSpec := { name := "fnExactPowerOf", fn := fun _ => fun
  | [d1, d2, d3] => { results := [.lit (.bool true)], args := [d1, d2, d3] }
  | _ => none }
def fnExactPowerOfRow : OpenClaim := { program := "ythkkicanockhgaa", sum := "08c2a0c28f40aacaa5fe1551e1a2b778b71dff54c36a51c7f03910d47596e199", func := "loop.example/g01245/laws.FnExactPowerOf", spec := "fnExactPowerOf", unfollowed := true, recurses := true, apart := false }
def FnExactPowerOfSaid : Prop := fnExactPowerOfRow.holds Try.pinned (OpenSpec.ofChange fnExactPowerOfSpec)

/-- ITS FALSE NEIGHBOUR: 'it returns false'. Refute it at one input. -/
def fnExactPowerOfWrong : ChangeSpec := { name := "fnExactPowerOf", fn := fun _ => fun
  | [d1, d2, d3] => { results := [.lit (.bool false)], args := [d1, d2, d3] }
  | _ => none }
def FnExactPowerOfWrongFalsely : Prop := fnExactPowerOfRow.holds Try.pinned (OpenSpec.ofChange fnExactPowerOfWrong)

/-- 'laws.FnExactBezoutOf': WHATEVER THE INPUT: true; the input reads as it did. -/
def fnExactBezoutOfSpec : ChangeSpec := { name := "fnExactBezoutOf", fn := fun _ => fun
  | [d1, d2, d3] => { results := [.lit (.bool true)], args := [d1, d2, d3] }
  | _ => none }
def fnExactBezoutOfRow : OpenClaim := { program := "ythkkicanockhgaa", sum := "08c2a0c28f40aacaa5fe1551e1a2b778b71dff54c36a51c7f03910d47596e199", func := "loop.example/g01245/laws.FnExactBezoutOf", spec := "fnExactBezoutOf", unfollowed := true, recurses := true, apart := false }
def FnExactBezoutOfSaid : Prop := fnExactBezoutOfRow.holds Try.pinned (OpenSpec.ofChange fnExactBezoutOfSpec)

/-- ITS FALSE NEIGHBOUR: 'it returns false'. Refute it at one input. -/
def fnExactBezoutOfWrong : ChangeSpec := { name := "fnExactBezoutOf", fn := fun _ => fun
  | [d1, d2, d3] => { results := [.lit (.bool false)], args := [d1, d2, d3] }
  | _ => none }
def FnExactBezoutOfWrongFalsely : Prop := fnExactBezoutOfRow.holds Try.pinned (OpenSpec.ofChange fnExactBezoutOfWrong)

/-- 'laws.FnExactPowerModulo': WHATEVER THE INPUT: true; the input reads as it did. -/
def fnExactPowerModuloSpec : ChangeSpec := { name := "fnExactPowerModulo", fn := fun _ => fun
  | [d1, d2, d3, d4] => { results := [.lit (.bool true)], args := [d1, d2, d3, d4] }
  | _ => none }
def fnExactPowerModuloRow : OpenClaim := { program := "ythkkicanockhgaa", sum := "08c2a0c28f40aacaa5fe1551e1a2b778b71dff54c36a51c7f03910d47596e199", func := "loop.example/g01245/laws.FnExactPowerModulo", spec := "fnExactPowerModulo", unfollowed := true, recurses := true, apart := false }
def FnExactPowerModuloSaid : Prop := fnExactPowerModuloRow.holds Try.pinned (OpenSpec.ofChange fnExactPowerModuloSpec)

/-- ITS FALSE NEIGHBOUR: 'it returns false'. Refute it at one input. -/
def fnExactPowerModuloWrong : ChangeSpec := { name := "fnExactPowerModulo", fn := fun _ => fun
  | [d1, d2, d3, d4] => { results := [.lit (.bool false)], args := [d1, d2, d3, d4] }
  | _ => none }
def FnExactPowerModuloWrongFalsely : Prop := fnExactPowerModuloRow.holds Try.pinned (OpenSpec.ofChange fnExactPowerModuloWrong)

/-- 'laws.FnExactGcdOf': WHATEVER THE INPUT: true; the input reads as it did. -/
def fnExactGcdOfSpec : ChangeSpec := { name := "fnExactGcdOf", fn := fun _ => fun
  | [d1, d2, d3] => { results := [.lit (.bool true)], args := [d1, d2, d3] }
  | _ => none }
def fnExactGcdOfRow : OpenClaim := { program := "ythkkicanockhgaa", sum := "08c2a0c28f40aacaa5fe1551e1a2b778b71dff54c36a51c7f03910d47596e199", func := "loop.example/g01245/laws.FnExactGcdOf", spec := "fnExactGcdOf", unfollowed := true, recurses := true, apart := false }
def FnExactGcdOfSaid : Prop := fnExactGcdOfRow.holds Try.pinned (OpenSpec.ofChange fnExactGcdOfSpec)

/-- ITS FALSE NEIGHBOUR: 'it returns false'. Refute it at one input. -/
def fnExactGcdOfWrong : ChangeSpec := { name := "fnExactGcdOf", fn := fun _ => fun
  | [d1, d2, d3] => { results := [.lit (.bool false)], args := [d1, d2, d3] }
  | _ => none }
def FnExactGcdOfWrongFalsely : Prop := fnExactGcdOfRow.holds Try.pinned (OpenSpec.ofChange fnExactGcdOfWrong)

/- THE SECOND FORM. 'bulk': how many values and letters a reading holds, each counted each time it is reached (what is shared counts as often as it is met; a slice's spare places count too). A statement '..UptoSaid' is the law's where the arguments, and the package variables that the reading takes, are together of bulk at most 1048576: NARROWER than '..Said'. Prove '..Said' where nothing that the law and all that it calls make is longer than what came in: it says more and counts as full. Else prove '..UptoSaid'. A law counts once. -/
mutual
def uptoBulk {H : Type} : DataW H → Nat
  | .lit (.string bytes) => bytes.length + 1
  | .lit _ => 1
  | .nil => 1
  | .ptr d => uptoBulk d + 1
  | .slice elems spare => uptoBulkAll elems + uptoBulkAll spare + 1
  | .agg parts => uptoBulkAll parts + 1
  | .iface _ d => uptoBulk d + 1
  | .map entries => uptoBulkEntries entries + 1
  | .held _ => 1
def uptoBulkAll {H : Type} : List (DataW H) → Nat
  | [] => 0
  | d :: r => uptoBulk d + uptoBulkAll r
def uptoBulkEntries {H : Type} : List (Lit × DataW H) → Nat
  | [] => 0
  | x :: r => uptoBulkEntry x + uptoBulkEntries r
def uptoBulkEntry {H : Type} : Lit × DataW H → Nat
  | (.string bytes, d) => bytes.length + uptoBulk d + 1
  | (_, d) => uptoBulk d + 1
 end
def uptoSmall : (H : Type) → List (DataW H) → Bool := fun _ ds => decide (uptoBulkAll ds ≤ 1048576)
def OpenSpec.upto (s : _root_.Go.ChangeSpec) : _root_.Go.OpenSpec := { _root_.Go.OpenSpec.ofChange s with cond := some uptoSmall }

/-- 'laws.FnExactAddPolys', WHERE WHAT IT READS IS OF BULK AT MOST 1048576: true; the input reads as it did. -/
def fnExactAddPolysUptoRow : OpenClaim := { program := "ythkkicanockhgaa", sum := "08c2a0c28f40aacaa5fe1551e1a2b778b71dff54c36a51c7f03910d47596e199", func := "loop.example/g01245/laws.FnExactAddPolys", spec := "fnExactAddPolys", unfollowed := true, recurses := true, apart := false, narrowed := true }
def FnExactAddPolysUptoSaid : Prop := fnExactAddPolysUptoRow.holds Try.pinned (OpenSpec.upto fnExactAddPolysSpec)

/-- 'laws.FnExactSubtractPolys', WHERE WHAT IT READS IS OF BULK AT MOST 1048576: true; the input reads as it did. -/
def fnExactSubtractPolysUptoRow : OpenClaim := { program := "ythkkicanockhgaa", sum := "08c2a0c28f40aacaa5fe1551e1a2b778b71dff54c36a51c7f03910d47596e199", func := "loop.example/g01245/laws.FnExactSubtractPolys", spec := "fnExactSubtractPolys", unfollowed := true, recurses := true, apart := false, narrowed := true }
def FnExactSubtractPolysUptoSaid : Prop := fnExactSubtractPolysUptoRow.holds Try.pinned (OpenSpec.upto fnExactSubtractPolysSpec)

/-- 'laws.FnExactMultiplyPolys', WHERE WHAT IT READS IS OF BULK AT MOST 1048576: true; the input reads as it did. -/
def fnExactMultiplyPolysUptoRow : OpenClaim := { program := "ythkkicanockhgaa", sum := "08c2a0c28f40aacaa5fe1551e1a2b778b71dff54c36a51c7f03910d47596e199", func := "loop.example/g01245/laws.FnExactMultiplyPolys", spec := "fnExactMultiplyPolys", unfollowed := true, recurses := true, apart := false, narrowed := true }
def FnExactMultiplyPolysUptoSaid : Prop := fnExactMultiplyPolysUptoRow.holds Try.pinned (OpenSpec.upto fnExactMultiplyPolysSpec)

/-- 'laws.FnExactBracketOf', WHERE WHAT IT READS IS OF BULK AT MOST 1048576: true; the input reads as it did. -/
def fnExactBracketOfUptoRow : OpenClaim := { program := "ythkkicanockhgaa", sum := "08c2a0c28f40aacaa5fe1551e1a2b778b71dff54c36a51c7f03910d47596e199", func := "loop.example/g01245/laws.FnExactBracketOf", spec := "fnExactBracketOf", apart := false, narrowed := true }
def FnExactBracketOfUptoSaid : Prop := fnExactBracketOfUptoRow.holds Try.pinned (OpenSpec.upto fnExactBracketOfSpec)

/-- 'laws.FnExactRootsOf', WHERE WHAT IT READS IS OF BULK AT MOST 1048576: true; the input reads as it did. -/
def fnExactRootsOfUptoRow : OpenClaim := { program := "ythkkicanockhgaa", sum := "08c2a0c28f40aacaa5fe1551e1a2b778b71dff54c36a51c7f03910d47596e199", func := "loop.example/g01245/laws.FnExactRootsOf", spec := "fnExactRootsOf", unfollowed := true, recurses := true, apart := false, narrowed := true }
def FnExactRootsOfUptoSaid : Prop := fnExactRootsOfUptoRow.holds Try.pinned (OpenSpec.upto fnExactRootsOfSpec)

/-- 'laws.FnExactDividePolys', WHERE WHAT IT READS IS OF BULK AT MOST 1048576: true; the input reads as it did. -/
def fnExactDividePolysUptoRow : OpenClaim := { program := "ythkkicanockhgaa", sum := "08c2a0c28f40aacaa5fe1551e1a2b778b71dff54c36a51c7f03910d47596e199", func := "loop.example/g01245/laws.FnExactDividePolys", spec := "fnExactDividePolys", unfollowed := true, recurses := true, apart := false, narrowed := true }
def FnExactDividePolysUptoSaid : Prop := fnExactDividePolysUptoRow.holds Try.pinned (OpenSpec.upto fnExactDividePolysSpec)

/-- 'laws.FnExactComposePolys', WHERE WHAT IT READS IS OF BULK AT MOST 1048576: true; the input reads as it did. -/
def fnExactComposePolysUptoRow : OpenClaim := { program := "ythkkicanockhgaa", sum := "08c2a0c28f40aacaa5fe1551e1a2b778b71dff54c36a51c7f03910d47596e199", func := "loop.example/g01245/laws.FnExactComposePolys", spec := "fnExactComposePolys", unfollowed := true, recurses := true, apart := false, narrowed := true }
def FnExactComposePolysUptoSaid : Prop := fnExactComposePolysUptoRow.holds Try.pinned (OpenSpec.upto fnExactComposePolysSpec)

/-- 'laws.FnExactRootPart', WHERE WHAT IT READS IS OF BULK AT MOST 1048576: true; the input reads as it did. -/
def fnExactRootPartUptoRow : OpenClaim := { program := "ythkkicanockhgaa", sum := "08c2a0c28f40aacaa5fe1551e1a2b778b71dff54c36a51c7f03910d47596e199", func := "loop.example/g01245/laws.FnExactRootPart", spec := "fnExactRootPart", unfollowed := true, recurses := true, apart := false, narrowed := true }
def FnExactRootPartUptoSaid : Prop := fnExactRootPartUptoRow.holds Try.pinned (OpenSpec.upto fnExactRootPartSpec)

/-- 'laws.FnExactPowerOf', WHERE WHAT IT READS IS OF BULK AT MOST 1048576: true; the input reads as it did. -/
def fnExactPowerOfUptoRow : OpenClaim := { program := "ythkkicanockhgaa", sum := "08c2a0c28f40aacaa5fe1551e1a2b778b71dff54c36a51c7f03910d47596e199", func := "loop.example/g01245/laws.FnExactPowerOf", spec := "fnExactPowerOf", unfollowed := true, recurses := true, apart := false, narrowed := true }
def FnExactPowerOfUptoSaid : Prop := fnExactPowerOfUptoRow.holds Try.pinned (OpenSpec.upto fnExactPowerOfSpec)

/-- 'laws.FnExactBezoutOf', WHERE WHAT IT READS IS OF BULK AT MOST 1048576: true; the input reads as it did. -/
def fnExactBezoutOfUptoRow : OpenClaim := { program := "ythkkicanockhgaa", sum := "08c2a0c28f40aacaa5fe1551e1a2b778b71dff54c36a51c7f03910d47596e199", func := "loop.example/g01245/laws.FnExactBezoutOf", spec := "fnExactBezoutOf", unfollowed := true, recurses := true, apart := false, narrowed := true }
def FnExactBezoutOfUptoSaid : Prop := fnExactBezoutOfUptoRow.holds Try.pinned (OpenSpec.upto fnExactBezoutOfSpec)

/-- 'laws.FnExactPowerModulo', WHERE WHAT IT READS IS OF BULK AT MOST 1048576: true; the input reads as it did. -/
def fnExactPowerModuloUptoRow : OpenClaim := { program := "ythkkicanockhgaa", sum := "08c2a0c28f40aacaa5fe1551e1a2b778b71dff54c36a51c7f03910d47596e199", func := "loop.example/g01245/laws.FnExactPowerModulo", spec := "fnExactPowerModulo", unfollowed := true, recurses := true, apart := false, narrowed := true }
def FnExactPowerModuloUptoSaid : Prop := fnExactPowerModuloUptoRow.holds Try.pinned (OpenSpec.upto fnExactPowerModuloSpec)

/-- 'laws.FnExactGcdOf', WHERE WHAT IT READS IS OF BULK AT MOST 1048576: true; the input reads as it did. -/
def fnExactGcdOfUptoRow : OpenClaim := { program := "ythkkicanockhgaa", sum := "08c2a0c28f40aacaa5fe1551e1a2b778b71dff54c36a51c7f03910d47596e199", func := "loop.example/g01245/laws.FnExactGcdOf", spec := "fnExactGcdOf", unfollowed := true, recurses := true, apart := false, narrowed := true }
def FnExactGcdOfUptoSaid : Prop := fnExactGcdOfUptoRow.holds Try.pinned (OpenSpec.upto fnExactGcdOfSpec)

end Rows
end Go.Proofs.Ythkkicanockhgaa
