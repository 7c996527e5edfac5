/-
  No cell of these rows narrows 'for every input' (looked for: loops, veiled, ifaces, maps, wideKeys, modest, calm, conditions, laid).
  DERIVED. THE GIVEN ROWS OF THIS SEAT. 6 by the template 'for every input the law returns true; each argument reads behind the call as it read before'; 0 by the template 'total and deterministic' (their statements: YtionaenmjndncabTotals.lean).
  GIVEN WITH THE SEED: the statements are not yours to turn. If you find one false, say at which input.
  Laid BY PROGRAM, IN A SANDBOX (cutbox-rows.mjs): the forced cells as the released guide's own fill.sh prints them over the translation c8f1f8b775c23f90… (all of the seat's roots in one cut). By AI agents, Wed Nov 11 2026. No macro, syntax, notation, axiom, sorry.
-/
import Derived.Test.YtionaenmjndncabChecked
import GoSem.Claim
import GoSem.ClaimJoined
import GoSem.ClaimMapViews
import Derived.JoinedTies
import Derived.KernelRfl
namespace Go.Proofs.Ytionaenmjndncab
/- THE CELL 'sum', in the pinned program and in every row, IS THE sha256 OF THE DUMP (.gsa) THAT YtionaenmjndncabProg.lean LOADS. Nothing in Lean hashes anything: it is a label: what it is worth is what the hold of that sum in a sandbox is worth. -/
noncomputable def Try.pinned : Pinned := { name := "ytionaenmjndncab", sum := "c8f1f8b775c23f90a8ff142ad2cb429a5131fe9af6b742fc402eb62de5b4d6ff", checked := Try.checked }
namespace Rows
def none {H : Type} : Left H := { results := [], args := [] }

/-- 'laws.FnExactActOnResidue': WHATEVER THE INPUT: true; the input reads as it did. -/
def fnExactActOnResidueSpec : ChangeSpec := { name := "fnExactActOnResidue", fn := fun _ => fun
  | [d1, d2, d3, d4] => { results := [.lit (.bool true)], args := [d1, d2, d3, d4] }
  | _ => none }
def fnExactActOnResidueRow : OpenClaim := { program := "ytionaenmjndncab", sum := "c8f1f8b775c23f90a8ff142ad2cb429a5131fe9af6b742fc402eb62de5b4d6ff", func := "loop.example/g01245/laws.FnExactActOnResidue", spec := "fnExactActOnResidue", unfollowed := true, recurses := true, apart := false }
def FnExactActOnResidueSaid : Prop := fnExactActOnResidueRow.holds Try.pinned (OpenSpec.ofChange fnExactActOnResidueSpec)

/-- ITS FALSE NEIGHBOUR: 'it returns false'. Refute it at one input. -/
def fnExactActOnResidueWrong : ChangeSpec := { name := "fnExactActOnResidue", fn := fun _ => fun
  | [d1, d2, d3, d4] => { results := [.lit (.bool false)], args := [d1, d2, d3, d4] }
  | _ => none }
def FnExactActOnResidueWrongFalsely : Prop := fnExactActOnResidueRow.holds Try.pinned (OpenSpec.ofChange fnExactActOnResidueWrong)

/-- 'laws.FnExactActionOf': WHATEVER THE INPUT: true; the input reads as it did. -/
def fnExactActionOfSpec : ChangeSpec := { name := "fnExactActionOf", fn := fun _ => fun
  | [d1, d2] => { results := [.lit (.bool true)], args := [d1, d2] }
  | _ => none }
def fnExactActionOfRow : OpenClaim := { program := "ytionaenmjndncab", sum := "c8f1f8b775c23f90a8ff142ad2cb429a5131fe9af6b742fc402eb62de5b4d6ff", func := "loop.example/g01245/laws.FnExactActionOf", spec := "fnExactActionOf", unfollowed := true, recurses := true, apart := false }
def FnExactActionOfSaid : Prop := fnExactActionOfRow.holds Try.pinned (OpenSpec.ofChange fnExactActionOfSpec)

/-- ITS FALSE NEIGHBOUR: 'it returns false'. Refute it at one input. -/
def fnExactActionOfWrong : ChangeSpec := { name := "fnExactActionOf", fn := fun _ => fun
  | [d1, d2] => { results := [.lit (.bool false)], args := [d1, d2] }
  | _ => none }
def FnExactActionOfWrongFalsely : Prop := fnExactActionOfRow.holds Try.pinned (OpenSpec.ofChange fnExactActionOfWrong)

/-- 'laws.FnExactBinomialOf': WHATEVER THE INPUT: true; the input reads as it did. -/
def fnExactBinomialOfSpec : ChangeSpec := { name := "fnExactBinomialOf", fn := fun _ => fun
  | [d1, d2, d3] => { results := [.lit (.bool true)], args := [d1, d2, d3] }
  | _ => none }
def fnExactBinomialOfRow : OpenClaim := { program := "ytionaenmjndncab", sum := "c8f1f8b775c23f90a8ff142ad2cb429a5131fe9af6b742fc402eb62de5b4d6ff", func := "loop.example/g01245/laws.FnExactBinomialOf", spec := "fnExactBinomialOf", unfollowed := true, recurses := true, apart := false }
def FnExactBinomialOfSaid : Prop := fnExactBinomialOfRow.holds Try.pinned (OpenSpec.ofChange fnExactBinomialOfSpec)

/-- ITS FALSE NEIGHBOUR: 'it returns false'. Refute it at one input. -/
def fnExactBinomialOfWrong : ChangeSpec := { name := "fnExactBinomialOf", fn := fun _ => fun
  | [d1, d2, d3] => { results := [.lit (.bool false)], args := [d1, d2, d3] }
  | _ => none }
def FnExactBinomialOfWrongFalsely : Prop := fnExactBinomialOfRow.holds Try.pinned (OpenSpec.ofChange fnExactBinomialOfWrong)

/-- 'laws.FnExactAddActions': WHATEVER THE INPUT: true; the input reads as it did. -/
def fnExactAddActionsSpec : ChangeSpec := { name := "fnExactAddActions", fn := fun _ => fun
  | [d1, d2, d3] => { results := [.lit (.bool true)], args := [d1, d2, d3] }
  | _ => none }
def fnExactAddActionsRow : OpenClaim := { program := "ytionaenmjndncab", sum := "c8f1f8b775c23f90a8ff142ad2cb429a5131fe9af6b742fc402eb62de5b4d6ff", func := "loop.example/g01245/laws.FnExactAddActions", spec := "fnExactAddActions", unfollowed := true, recurses := true, apart := false }
def FnExactAddActionsSaid : Prop := fnExactAddActionsRow.holds Try.pinned (OpenSpec.ofChange fnExactAddActionsSpec)

/-- ITS FALSE NEIGHBOUR: 'it returns false'. Refute it at one input. -/
def fnExactAddActionsWrong : ChangeSpec := { name := "fnExactAddActions", fn := fun _ => fun
  | [d1, d2, d3] => { results := [.lit (.bool false)], args := [d1, d2, d3] }
  | _ => none }
def FnExactAddActionsWrongFalsely : Prop := fnExactAddActionsRow.holds Try.pinned (OpenSpec.ofChange fnExactAddActionsWrong)

/-- 'laws.FnExactComposeActions': WHATEVER THE INPUT: true; the input reads as it did. -/
def fnExactComposeActionsSpec : ChangeSpec := { name := "fnExactComposeActions", fn := fun _ => fun
  | [d1, d2, d3] => { results := [.lit (.bool true)], args := [d1, d2, d3] }
  | _ => none }
def fnExactComposeActionsRow : OpenClaim := { program := "ytionaenmjndncab", sum := "c8f1f8b775c23f90a8ff142ad2cb429a5131fe9af6b742fc402eb62de5b4d6ff", func := "loop.example/g01245/laws.FnExactComposeActions", spec := "fnExactComposeActions", unfollowed := true, recurses := true, apart := false }
def FnExactComposeActionsSaid : Prop := fnExactComposeActionsRow.holds Try.pinned (OpenSpec.ofChange fnExactComposeActionsSpec)

/-- ITS FALSE NEIGHBOUR: 'it returns false'. Refute it at one input. -/
def fnExactComposeActionsWrong : ChangeSpec := { name := "fnExactComposeActions", fn := fun _ => fun
  | [d1, d2, d3] => { results := [.lit (.bool false)], args := [d1, d2, d3] }
  | _ => none }
def FnExactComposeActionsWrongFalsely : Prop := fnExactComposeActionsRow.holds Try.pinned (OpenSpec.ofChange fnExactComposeActionsWrong)

/-- 'laws.FnExactAnnihilatorOf': WHATEVER THE INPUT: true; the input reads as it did. -/
def fnExactAnnihilatorOfSpec : ChangeSpec := { name := "fnExactAnnihilatorOf", fn := fun _ => fun
  | [d1, d2, d3] => { results := [.lit (.bool true)], args := [d1, d2, d3] }
  | _ => none }
def fnExactAnnihilatorOfRow : OpenClaim := { program := "ytionaenmjndncab", sum := "c8f1f8b775c23f90a8ff142ad2cb429a5131fe9af6b742fc402eb62de5b4d6ff", func := "loop.example/g01245/laws.FnExactAnnihilatorOf", spec := "fnExactAnnihilatorOf", inPlace := ["slices.overlaps[loop.example/g01245/impl.row]"], unfollowed := true, recurses := true, apart := false }
def FnExactAnnihilatorOfSaid : Prop := fnExactAnnihilatorOfRow.holds Try.pinned (OpenSpec.ofChange fnExactAnnihilatorOfSpec)

/-- ITS FALSE NEIGHBOUR: 'it returns false'. Refute it at one input. -/
def fnExactAnnihilatorOfWrong : ChangeSpec := { name := "fnExactAnnihilatorOf", fn := fun _ => fun
  | [d1, d2, d3] => { results := [.lit (.bool false)], args := [d1, d2, d3] }
  | _ => none }
def FnExactAnnihilatorOfWrongFalsely : Prop := fnExactAnnihilatorOfRow.holds Try.pinned (OpenSpec.ofChange fnExactAnnihilatorOfWrong)

/- THE SECOND FORM. 'bulk': how many values and letters a reading holds, each counted each time it is reached (what is shared counts as often as it is met; a slice's spare places count too). A statement '..UptoSaid' is the law's where the arguments, and the package variables that the reading takes, are together of bulk at most 1048576: NARROWER than '..Said'. Prove '..Said' where nothing that the law and all that it calls make is longer than what came in: it says more and counts as full. Else prove '..UptoSaid'. A law counts once. -/
mutual
def uptoBulk {H : Type} : DataW H → Nat
  | .lit (.string bytes) => bytes.length + 1
  | .lit _ => 1
  | .nil => 1
  | .ptr d => uptoBulk d + 1
  | .slice elems spare => uptoBulkAll elems + uptoBulkAll spare + 1
  | .agg parts => uptoBulkAll parts + 1
  | .iface _ d => uptoBulk d + 1
  | .map entries => uptoBulkEntries entries + 1
  | .held _ => 1
def uptoBulkAll {H : Type} : List (DataW H) → Nat
  | [] => 0
  | d :: r => uptoBulk d + uptoBulkAll r
def uptoBulkEntries {H : Type} : List (Lit × DataW H) → Nat
  | [] => 0
  | x :: r => uptoBulkEntry x + uptoBulkEntries r
def uptoBulkEntry {H : Type} : Lit × DataW H → Nat
  | (.string bytes, d) => bytes.length + uptoBulk d + 1
  | (_, d) => uptoBulk d + 1
 end
def uptoSmall : (H : Type) → List (DataW H) → Bool := fun _ ds => decide (uptoBulkAll ds ≤ 1048576)
def OpenSpec.upto (s : _root_.Go.ChangeSpec) : _root_.Go.OpenSpec := { _root_.Go.OpenSpec.ofChange s with cond := some uptoSmall }

/-- 'laws.FnExactActOnResidue', WHERE WHAT IT READS IS OF BULK AT MOST 1048576: true; the input reads as it did. -/
def fnExactActOnResidueUptoRow : OpenClaim := { program := "ytionaenmjndncab", sum := "c8f1f8b775c23f90a8ff142ad2cb429a5131fe9af6b742fc402eb62de5b4d6ff", func := "loop.example/g01245/laws.FnExactActOnResidue", spec := "fnExactActOnResidue", unfollowed := true, recurses := true, apart := false, narrowed := true }
def FnExactActOnResidueUptoSaid : Prop := fnExactActOnResidueUptoRow.holds Try.pinned (OpenSpec.upto fnExactActOnResidueSpec)

/-- 'laws.FnExactActionOf', WHERE WHAT IT READS IS OF BULK AT MOST 1048576: true; the input reads as it did. -/
def fnExactActionOfUptoRow : OpenClaim := { program := "ytionaenmjndncab", sum := "c8f1f8b775c23f90a8ff142ad2cb429a5131fe9af6b742fc402eb62de5b4d6ff", func := "loop.example/g01245/laws.FnExactActionOf", spec := "fnExactActionOf", unfollowed := true, recurses := true, apart := false, narrowed := true }
def FnExactActionOfUptoSaid : Prop := fnExactActionOfUptoRow.holds Try.pinned (OpenSpec.upto fnExactActionOfSpec)

/-- 'laws.FnExactBinomialOf', WHERE WHAT IT READS IS OF BULK AT MOST 1048576: true; the input reads as it did. -/
def fnExactBinomialOfUptoRow : OpenClaim := { program := "ytionaenmjndncab", sum := "c8f1f8b775c23f90a8ff142ad2cb429a5131fe9af6b742fc402eb62de5b4d6ff", func := "loop.example/g01245/laws.FnExactBinomialOf", spec := "fnExactBinomialOf", unfollowed := true, recurses := true, apart := false, narrowed := true }
def FnExactBinomialOfUptoSaid : Prop := fnExactBinomialOfUptoRow.holds Try.pinned (OpenSpec.upto fnExactBinomialOfSpec)

/-- 'laws.FnExactAddActions', WHERE WHAT IT READS IS OF BULK AT MOST 1048576: true; the input reads as it did. -/
def fnExactAddActionsUptoRow : OpenClaim := { program := "ytionaenmjndncab", sum := "c8f1f8b775c23f90a8ff142ad2cb429a5131fe9af6b742fc402eb62de5b4d6ff", func := "loop.example/g01245/laws.FnExactAddActions", spec := "fnExactAddActions", unfollowed := true, recurses := true, apart := false, narrowed := true }
def FnExactAddActionsUptoSaid : Prop := fnExactAddActionsUptoRow.holds Try.pinned (OpenSpec.upto fnExactAddActionsSpec)

/-- 'laws.FnExactComposeActions', WHERE WHAT IT READS IS OF BULK AT MOST 1048576: true; the input reads as it did. -/
def fnExactComposeActionsUptoRow : OpenClaim := { program := "ytionaenmjndncab", sum := "c8f1f8b775c23f90a8ff142ad2cb429a5131fe9af6b742fc402eb62de5b4d6ff", func := "loop.example/g01245/laws.FnExactComposeActions", spec := "fnExactComposeActions", unfollowed := true, recurses := true, apart := false, narrowed := true }
def FnExactComposeActionsUptoSaid : Prop := fnExactComposeActionsUptoRow.holds Try.pinned (OpenSpec.upto fnExactComposeActionsSpec)

/-- 'laws.FnExactAnnihilatorOf', WHERE WHAT IT READS IS OF BULK AT MOST 1048576: true; the input reads as it did. -/
def fnExactAnnihilatorOfUptoRow : OpenClaim := { program := "ytionaenmjndncab", sum := "c8f1f8b775c23f90a8ff142ad2cb429a5131fe9af6b742fc402eb62de5b4d6ff", func := "loop.example/g01245/laws.FnExactAnnihilatorOf", spec := "fnExactAnnihilatorOf", inPlace := ["slices.overlaps[loop.example/g01245/impl.row]"], unfollowed := true, recurses := true, apart := false, narrowed := true }
def FnExactAnnihilatorOfUptoSaid : Prop := fnExactAnnihilatorOfUptoRow.holds Try.pinned (OpenSpec.upto fnExactAnnihilatorOfSpec)

end Rows
end Go.Proofs.Ytionaenmjndncab
