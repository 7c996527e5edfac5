/- Walks: inverses modulo a modulus, on both sides. -/
import Derived.Test.YtojkngdabejjdaaE3
set_option linter.unusedVariables false
set_option linter.unusedSimpArgs false
namespace Go.Proofs.Ytojkngdabejjdaa
open Go.RowKit

theorem below_lit {B g : Nat} {w w0 w1 : World} {o : Obj} (h : Below B w w0) (hB : B ≤ w0.heap.size) (hg : g = w0.heap.size) (hn : Below g (w0.alloc o) w1) : Below B w w1 :=
  (h.alloc hB o).trans (hn.mono (by omega))
theorem Blk.lit {g k : Nat} {cs : Array Value} {t : TypeId} {w0 w1 : World} {o : Obj} (h : Blk w0 k cs t) (hg : g = w0.heap.size) (hn : Below g (w0.alloc o) w1) : Blk w1 k cs t :=
  (h.alloc o).below hn (by have := h.lt; omega)
theorem Mon.ne {m : List Int} (h : Mon m) : m ≠ [] := fun e => by have := h.2.1; rw [e] at this; simp at this
theorem arr_zero_ite (b c : Bool) (f : Nat → Int) (h : (b && c) = true) : u8s 64 (if b then (if c then f else fun _ => 0) else fun _ => 0) = u8s 64 f := by cases b <;> cases c <;> first | rfl | cases h
/-- What InverseModulo gives. -/
def invA (b c d : Bool) (M : List Int) : Nat → Int := if b then (if c then (if d then cf M else fun _ => 0) else fun _ => 0) else fun _ => 0
def invC (b c d : Bool) : Int := if b then (if c then (if d then 0 else 4) else 2) else 1

end Go.Proofs.Ytojkngdabejjdaa
