/- Walks: codes of two lists of polynomials. -/
import Derived.Test.YtionaenmjndncabF9
set_option linter.unusedVariables false
set_option linter.unusedSimpArgs false
namespace Go.Proofs.Ytionaenmjndncab
open Go.RowKit
/-- Two lists are as told: all numbers modulo a prime. -/
def GoodL (p : Int) (na nb : Nat) (F G : Nat → Int) : Prop := Pr p ∧ AllP na F p ∧ AllP nb G p
theorem Fl.at {w : World} {B : Nat} {v : Value} {n : Nat} {F : Nat → Int} (h : Fl w B v n F) : ∃ oa cap, v = .slice oa n cap ∧ CellsAt w oa (n * 64) (fun j => .int .u8 (F j)) := by
  rcases h.2 with ⟨rfl, rfl⟩ | ⟨g, cap, cur, rfl, _⟩
  · exact ⟨none, 0, rfl, fun h => absurd h (by omega)⟩
  · exact ⟨_, cap, rfl, fun _ => ⟨g, 0, rfl, fun j hj => by rw [Nat.zero_add]; exact h.cell j hj⟩⟩
def lcode (b c : Bool) : Int := if b then (if c then 0 else 2) else 1
set_option maxRecDepth 20000 in
set_option maxHeartbeats 1000000 in
theorem l04Lists_any (va vb : Value) (na nb B1 B2 : Nat) (F G : Nat → Int) (p : Int) (w : World) (hF : By F) (hG : By G) (ha : Fl w B1 va na F) (hb : Fl w B2 vb nb G) (hna : na ≤ 10000000) (hnb : nb ≤ 10000000)
    (b c : Bool) (hbb : GoodL p na nb F G ↔ b = true) (hc : decide (na ≤ 7 ∧ nb ≤ 7) = c) :
    Calls Try.prog 41 #[.int .i64 p, va, vb] w fun e w' => e = .returned (.int .i64 (lcode b c)) ∧ Below w.heap.size w w' := by
  obtain ⟨oa, ca, rfl, hCa⟩ := ha.at
  obtain ⟨ob, cb, rfl, hCb⟩ := hb.at
  obtain ⟨b1, hb1⟩ := dec_true (Pr p ∧ AllP na F p)
  obtain ⟨b2, hb2⟩ := dec_true (Pr p ∧ AllP nb G p)
  have H1 := Lib.hid (fun w (h : CellsAt w oa (na * 64) (fun j => .int .u8 (F j))) => l01Code_any F na ca oa p w (fun j _ => hF j) (by omega) h b1 hb1)
  have H2 := Lib.hid (fun w (h : CellsAt w ob (nb * 64) (fun j => .int .u8 (G j))) => l01Code_any G nb cb ob p w (fun j _ => hG j) (by omega) h b2 hb2)
  have hbv : b = (b1 && b2) := by
    rw [Bool.eq_iff_iff, Bool.and_eq_true, ← hbb, ← hb1, ← hb2]
    exact ⟨fun h => ⟨⟨h.1, h.2.1⟩, ⟨h.1, h.2.2⟩⟩, fun h => ⟨h.1.1, h.1.2, h.2.2⟩⟩
  have hCaH := Lib.hid hCa
  have hCbH := Lib.hid hCb
  have hcH := Lib.hid hc
  clear ha hb hCa hCb hF hG hbb hb1 hb2 hc
  subst hbv
  go_enter Try.func41, Try.ntmps41
  go_wp2_with fail
  refine (H1.out _ hCaH.out).mono ?_
  rintro e w1 ⟨rfl, hn⟩
  cases b1
  · have hg : (codeOf false != 0) = true := rfl
    go_wp2_with fail
    go_ret
    exact ⟨rfl, hn⟩
  · have hg : (codeOf true != 0) = false := rfl
    have hCb1 := Lib.hid (hCbH.out.below hn)
    go_wp2_with fail
    refine (H2.out _ hCb1.out).mono ?_
    rintro e w2 ⟨rfl, hn2⟩
    have hn3 := below_step hn hn2
    cases b2
    · have hg2 : (codeOf false != 0) = true := rfl
      go_wp2_with fail
      go_ret
      exact ⟨rfl, hn3⟩
    · cases c
      · have hcc := of_decide_eq_false hcH.out
        by_cases h7 : na ≤ 7
        · have h8 : ¬ nb ≤ 7 := fun h => hcc ⟨h7, h⟩
          clear hcc
          go_wp2_with fail
          go_ret
          exact ⟨rfl, hn3⟩
        · clear hcc
          go_wp2_with fail
          go_ret
          exact ⟨rfl, hn3⟩
      · have hcc := of_decide_eq_true hcH.out
        have h7 := hcc.1
        have h8 := hcc.2
        clear hcc
        go_wp2_with fail
        go_ret
        exact ⟨rfl, hn3⟩
end Go.Proofs.Ytionaenmjndncab
