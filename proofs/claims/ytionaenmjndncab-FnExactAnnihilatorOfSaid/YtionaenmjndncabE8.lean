/- Walks: brackets on both sides. -/
import Derived.Test.YtionaenmjndncabE7
set_option linter.unusedVariables false
set_option linter.unusedSimpArgs false
namespace Go.Proofs.Ytionaenmjndncab
open Go.RowKit

set_option maxHeartbeats 400000 in
theorem letter_any (w : World) : Calls Try.prog 74 #[] w fun e w' => ∃ v, e = .returned v ∧ IsRow w' v [0, 1] ∧ Below w.heap.size w w' := by
  have hB := Blk.new w #[Value.int .i64 0, Value.int .i64 1] 2
  have hrow : IsRow (w.alloc (.cells #[Value.int .i64 0, Value.int .i64 1] 2)) (.slice (some ⟨w.heap.size, 0, none⟩) 2 2) [0, 1] := by
    refine ⟨some ⟨w.heap.size, 0, none⟩, 2, rfl, by simp, by unfold maxLen; omega, fun _ => ⟨_, 0, rfl, fun i hi => ?_⟩⟩
    rw [hB.cell, Nat.zero_add]
    simp only [List.length_cons, List.length_nil] at hi
    rcases i with _ | _ | i
    · rfl
    · rfl
    · omega
  have hrowH := Lib.hid hrow
  clear hrow hB
  go_enter Try.func74, Try.ntmps74
  go_wp2_with fail
  go_ret
  exact ⟨_, rfl, hrowH.out, below_new _ _⟩
theorem lett_Po {p : Int} (hp : Pr p) : Po p [0, 1] := letter_Po hp.pos.1

def brkPost (p : Int) (q : Nat) (d : Bool) (e : Ending) : Prop := ∃ M, e = .returned (.tuple #[.agg (u8s 64 (cf M)), .bool d]) ∧ (d = true → M = brk p q)

def brkF (b c : Bool) (M : List Int) : Nat → Int := if b then (if c then toldF M else fun _ => 0) else fun _ => 0
def brkC (b c : Bool) (M : List Int) : Int := if b then (if c then toldC M else 2) else 1

end Go.Proofs.Ytionaenmjndncab
