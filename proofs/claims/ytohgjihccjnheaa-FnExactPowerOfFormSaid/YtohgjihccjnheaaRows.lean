/-
  No cell of these rows narrows 'for every input' (looked for: loops, veiled, ifaces, maps, wideKeys, modest, calm, conditions, laid).
  DERIVED. THE GIVEN ROWS OF THIS SEAT. 6 by the template 'for every input the law returns true; each argument reads behind the call as it read before'; 0 by the template 'total and deterministic' (their statements: YtohgjihccjnheaaTotals.lean).
  GIVEN WITH THE SEED: the statements are not yours to turn. If you find one false, say at which input.
  Laid BY PROGRAM, IN A SANDBOX (cutbox-rows.mjs): the forced cells as the released guide's own fill.sh prints them over the translation ea3fc3fb2a763cc2… (all of the seat's roots in one cut). By AI agents, Wed Nov 11 2026. No macro, syntax, notation, axiom, sorry.
-/
import Derived.Test.YtohgjihccjnheaaChecked
import GoSem.Claim
import GoSem.ClaimJoined
import GoSem.ClaimMapViews
import Derived.JoinedTies
import Derived.KernelRfl
namespace Go.Proofs.Ytohgjihccjnheaa
/- THE CELL 'sum', in the pinned program and in every row, IS THE sha256 OF THE DUMP (.gsa) THAT YtohgjihccjnheaaProg.lean LOADS. Nothing in Lean hashes anything: it is a label: what it is worth is what the hold of that sum in a sandbox is worth. -/
noncomputable def Try.pinned : Pinned := { name := "ytohgjihccjnheaa", sum := "ea3fc3fb2a763cc23f8a0af80c54016628693c91e645d7a50f530236a589ee70", checked := Try.checked }
namespace Rows
def none {H : Type} : Left H := { results := [], args := [] }

/-- 'laws.FnExactIsDiscriminant': WHATEVER THE INPUT: true; the input reads as it did. -/
def fnExactIsDiscriminantSpec : ChangeSpec := { name := "fnExactIsDiscriminant", fn := fun _ => fun
  | [d1, d2] => { results := [.lit (.bool true)], args := [d1, d2] }
  | _ => none }
def fnExactIsDiscriminantRow : OpenClaim := { program := "ytohgjihccjnheaa", sum := "ea3fc3fb2a763cc23f8a0af80c54016628693c91e645d7a50f530236a589ee70", func := "loop.example/g01245/laws.FnExactIsDiscriminant", spec := "fnExactIsDiscriminant", unfollowed := true, recurses := true, apart := false }
def FnExactIsDiscriminantSaid : Prop := fnExactIsDiscriminantRow.holds Try.pinned (OpenSpec.ofChange fnExactIsDiscriminantSpec)

/-- ITS FALSE NEIGHBOUR: 'it returns false'. Refute it at one input. -/
def fnExactIsDiscriminantWrong : ChangeSpec := { name := "fnExactIsDiscriminant", fn := fun _ => fun
  | [d1, d2] => { results := [.lit (.bool false)], args := [d1, d2] }
  | _ => none }
def FnExactIsDiscriminantWrongFalsely : Prop := fnExactIsDiscriminantRow.holds Try.pinned (OpenSpec.ofChange fnExactIsDiscriminantWrong)

/-- 'laws.FnExactIsForm': WHATEVER THE INPUT: true; the input reads as it did. -/
def fnExactIsFormSpec : ChangeSpec := { name := "fnExactIsForm", fn := fun _ => fun
  | [d1, d2, d3] => { results := [.lit (.bool true)], args := [d1, d2, d3] }
  | _ => none }
def fnExactIsFormRow : OpenClaim := { program := "ytohgjihccjnheaa", sum := "ea3fc3fb2a763cc23f8a0af80c54016628693c91e645d7a50f530236a589ee70", func := "loop.example/g01245/laws.FnExactIsForm", spec := "fnExactIsForm", unfollowed := true, recurses := true, apart := false }
def FnExactIsFormSaid : Prop := fnExactIsFormRow.holds Try.pinned (OpenSpec.ofChange fnExactIsFormSpec)

/-- ITS FALSE NEIGHBOUR: 'it returns false'. Refute it at one input. -/
def fnExactIsFormWrong : ChangeSpec := { name := "fnExactIsForm", fn := fun _ => fun
  | [d1, d2, d3] => { results := [.lit (.bool false)], args := [d1, d2, d3] }
  | _ => none }
def FnExactIsFormWrongFalsely : Prop := fnExactIsFormRow.holds Try.pinned (OpenSpec.ofChange fnExactIsFormWrong)

/-- 'laws.FnExactInverseForm': WHATEVER THE INPUT: true; the input reads as it did. -/
def fnExactInverseFormSpec : ChangeSpec := { name := "fnExactInverseForm", fn := fun _ => fun
  | [d1, d2, d3] => { results := [.lit (.bool true)], args := [d1, d2, d3] }
  | _ => none }
def fnExactInverseFormRow : OpenClaim := { program := "ytohgjihccjnheaa", sum := "ea3fc3fb2a763cc23f8a0af80c54016628693c91e645d7a50f530236a589ee70", func := "loop.example/g01245/laws.FnExactInverseForm", spec := "fnExactInverseForm", unfollowed := true, recurses := true, apart := false }
def FnExactInverseFormSaid : Prop := fnExactInverseFormRow.holds Try.pinned (OpenSpec.ofChange fnExactInverseFormSpec)

/-- ITS FALSE NEIGHBOUR: 'it returns false'. Refute it at one input. -/
def fnExactInverseFormWrong : ChangeSpec := { name := "fnExactInverseForm", fn := fun _ => fun
  | [d1, d2, d3] => { results := [.lit (.bool false)], args := [d1, d2, d3] }
  | _ => none }
def FnExactInverseFormWrongFalsely : Prop := fnExactInverseFormRow.holds Try.pinned (OpenSpec.ofChange fnExactInverseFormWrong)

/-- 'laws.FnExactReduceForm': WHATEVER THE INPUT: true; the input reads as it did. -/
def fnExactReduceFormSpec : ChangeSpec := { name := "fnExactReduceForm", fn := fun _ => fun
  | [d1, d2, d3] => { results := [.lit (.bool true)], args := [d1, d2, d3] }
  | _ => none }
def fnExactReduceFormRow : OpenClaim := { program := "ytohgjihccjnheaa", sum := "ea3fc3fb2a763cc23f8a0af80c54016628693c91e645d7a50f530236a589ee70", func := "loop.example/g01245/laws.FnExactReduceForm", spec := "fnExactReduceForm", unfollowed := true, recurses := true, apart := false }
def FnExactReduceFormSaid : Prop := fnExactReduceFormRow.holds Try.pinned (OpenSpec.ofChange fnExactReduceFormSpec)

/-- ITS FALSE NEIGHBOUR: 'it returns false'. Refute it at one input. -/
def fnExactReduceFormWrong : ChangeSpec := { name := "fnExactReduceForm", fn := fun _ => fun
  | [d1, d2, d3] => { results := [.lit (.bool false)], args := [d1, d2, d3] }
  | _ => none }
def FnExactReduceFormWrongFalsely : Prop := fnExactReduceFormRow.holds Try.pinned (OpenSpec.ofChange fnExactReduceFormWrong)

/-- 'laws.FnExactComposeForms': WHATEVER THE INPUT: true; the input reads as it did. -/
def fnExactComposeFormsSpec : ChangeSpec := { name := "fnExactComposeForms", fn := fun _ => fun
  | [d1, d2, d3, d4] => { results := [.lit (.bool true)], args := [d1, d2, d3, d4] }
  | _ => none }
def fnExactComposeFormsRow : OpenClaim := { program := "ytohgjihccjnheaa", sum := "ea3fc3fb2a763cc23f8a0af80c54016628693c91e645d7a50f530236a589ee70", func := "loop.example/g01245/laws.FnExactComposeForms", spec := "fnExactComposeForms", unfollowed := true, recurses := true, apart := false }
def FnExactComposeFormsSaid : Prop := fnExactComposeFormsRow.holds Try.pinned (OpenSpec.ofChange fnExactComposeFormsSpec)

/-- ITS FALSE NEIGHBOUR: 'it returns false'. Refute it at one input. -/
def fnExactComposeFormsWrong : ChangeSpec := { name := "fnExactComposeForms", fn := fun _ => fun
  | [d1, d2, d3, d4] => { results := [.lit (.bool false)], args := [d1, d2, d3, d4] }
  | _ => none }
def FnExactComposeFormsWrongFalsely : Prop := fnExactComposeFormsRow.holds Try.pinned (OpenSpec.ofChange fnExactComposeFormsWrong)

/-- 'laws.FnExactPowerOfForm': WHATEVER THE INPUT: true; the input reads as it did. -/
def fnExactPowerOfFormSpec : ChangeSpec := { name := "fnExactPowerOfForm", fn := fun _ => fun
  | [d1, d2, d3, d4] => { results := [.lit (.bool true)], args := [d1, d2, d3, d4] }
  | _ => none }
def fnExactPowerOfFormRow : OpenClaim := { program := "ytohgjihccjnheaa", sum := "ea3fc3fb2a763cc23f8a0af80c54016628693c91e645d7a50f530236a589ee70", func := "loop.example/g01245/laws.FnExactPowerOfForm", spec := "fnExactPowerOfForm", unfollowed := true, recurses := true, apart := false }
def FnExactPowerOfFormSaid : Prop := fnExactPowerOfFormRow.holds Try.pinned (OpenSpec.ofChange fnExactPowerOfFormSpec)

/-- ITS FALSE NEIGHBOUR: 'it returns false'. Refute it at one input. -/
def fnExactPowerOfFormWrong : ChangeSpec := { name := "fnExactPowerOfForm", fn := fun _ => fun
  | [d1, d2, d3, d4] => { results := [.lit (.bool false)], args := [d1, d2, d3, d4] }
  | _ => none }
def FnExactPowerOfFormWrongFalsely : Prop := fnExactPowerOfFormRow.holds Try.pinned (OpenSpec.ofChange fnExactPowerOfFormWrong)

/- THE SECOND FORM. 'bulk': how many values and letters a reading holds, each counted each time it is reached (what is shared counts as often as it is met; a slice's spare places count too). A statement '..UptoSaid' is the law's where the arguments, and the package variables that the reading takes, are together of bulk at most 1048576: NARROWER than '..Said'. Prove '..Said' where nothing that the law and all that it calls make is longer than what came in: it says more and counts as full. Else prove '..UptoSaid'. A law counts once. -/
mutual
def uptoBulk {H : Type} : DataW H → Nat
  | .lit (.string bytes) => bytes.length + 1
  | .lit _ => 1
  | .nil => 1
  | .ptr d => uptoBulk d + 1
  | .slice elems spare => uptoBulkAll elems + uptoBulkAll spare + 1
  | .agg parts => uptoBulkAll parts + 1
  | .iface _ d => uptoBulk d + 1
  | .map entries => uptoBulkEntries entries + 1
  | .held _ => 1
def uptoBulkAll {H : Type} : List (DataW H) → Nat
  | [] => 0
  | d :: r => uptoBulk d + uptoBulkAll r
def uptoBulkEntries {H : Type} : List (Lit × DataW H) → Nat
  | [] => 0
  | x :: r => uptoBulkEntry x + uptoBulkEntries r
def uptoBulkEntry {H : Type} : Lit × DataW H → Nat
  | (.string bytes, d) => bytes.length + uptoBulk d + 1
  | (_, d) => uptoBulk d + 1
 end
def uptoSmall : (H : Type) → List (DataW H) → Bool := fun _ ds => decide (uptoBulkAll ds ≤ 1048576)
def OpenSpec.upto (s : _root_.Go.ChangeSpec) : _root_.Go.OpenSpec := { _root_.Go.OpenSpec.ofChange s with cond := some uptoSmall }

/-- 'laws.FnExactIsDiscriminant', WHERE WHAT IT READS IS OF BULK AT MOST 1048576: true; the input reads as it did. -/
def fnExactIsDiscriminantUptoRow : OpenClaim := { program := "ytohgjihccjnheaa", sum := "ea3fc3fb2a763cc23f8a0af80c54016628693c91e645d7a50f530236a589ee70", func := "loop.example/g01245/laws.FnExactIsDiscriminant", spec := "fnExactIsDiscriminant", unfollowed := true, recurses := true, apart := false, narrowed := true }
def FnExactIsDiscriminantUptoSaid : Prop := fnExactIsDiscriminantUptoRow.holds Try.pinned (OpenSpec.upto fnExactIsDiscriminantSpec)

/-- 'laws.FnExactIsForm', WHERE WHAT IT READS IS OF BULK AT MOST 1048576: true; the input reads as it did. -/
def fnExactIsFormUptoRow : OpenClaim := { program := "ytohgjihccjnheaa", sum := "ea3fc3fb2a763cc23f8a0af80c54016628693c91e645d7a50f530236a589ee70", func := "loop.example/g01245/laws.FnExactIsForm", spec := "fnExactIsForm", unfollowed := true, recurses := true, apart := false, narrowed := true }
def FnExactIsFormUptoSaid : Prop := fnExactIsFormUptoRow.holds Try.pinned (OpenSpec.upto fnExactIsFormSpec)

/-- 'laws.FnExactInverseForm', WHERE WHAT IT READS IS OF BULK AT MOST 1048576: true; the input reads as it did. -/
def fnExactInverseFormUptoRow : OpenClaim := { program := "ytohgjihccjnheaa", sum := "ea3fc3fb2a763cc23f8a0af80c54016628693c91e645d7a50f530236a589ee70", func := "loop.example/g01245/laws.FnExactInverseForm", spec := "fnExactInverseForm", unfollowed := true, recurses := true, apart := false, narrowed := true }
def FnExactInverseFormUptoSaid : Prop := fnExactInverseFormUptoRow.holds Try.pinned (OpenSpec.upto fnExactInverseFormSpec)

/-- 'laws.FnExactReduceForm', WHERE WHAT IT READS IS OF BULK AT MOST 1048576: true; the input reads as it did. -/
def fnExactReduceFormUptoRow : OpenClaim := { program := "ytohgjihccjnheaa", sum := "ea3fc3fb2a763cc23f8a0af80c54016628693c91e645d7a50f530236a589ee70", func := "loop.example/g01245/laws.FnExactReduceForm", spec := "fnExactReduceForm", unfollowed := true, recurses := true, apart := false, narrowed := true }
def FnExactReduceFormUptoSaid : Prop := fnExactReduceFormUptoRow.holds Try.pinned (OpenSpec.upto fnExactReduceFormSpec)

/-- 'laws.FnExactComposeForms', WHERE WHAT IT READS IS OF BULK AT MOST 1048576: true; the input reads as it did. -/
def fnExactComposeFormsUptoRow : OpenClaim := { program := "ytohgjihccjnheaa", sum := "ea3fc3fb2a763cc23f8a0af80c54016628693c91e645d7a50f530236a589ee70", func := "loop.example/g01245/laws.FnExactComposeForms", spec := "fnExactComposeForms", unfollowed := true, recurses := true, apart := false, narrowed := true }
def FnExactComposeFormsUptoSaid : Prop := fnExactComposeFormsUptoRow.holds Try.pinned (OpenSpec.upto fnExactComposeFormsSpec)

/-- 'laws.FnExactPowerOfForm', WHERE WHAT IT READS IS OF BULK AT MOST 1048576: true; the input reads as it did. -/
def fnExactPowerOfFormUptoRow : OpenClaim := { program := "ytohgjihccjnheaa", sum := "ea3fc3fb2a763cc23f8a0af80c54016628693c91e645d7a50f530236a589ee70", func := "loop.example/g01245/laws.FnExactPowerOfForm", spec := "fnExactPowerOfForm", unfollowed := true, recurses := true, apart := false, narrowed := true }
def FnExactPowerOfFormUptoSaid : Prop := fnExactPowerOfFormUptoRow.holds Try.pinned (OpenSpec.upto fnExactPowerOfFormSpec)

end Rows
end Go.Proofs.Ytohgjihccjnheaa
