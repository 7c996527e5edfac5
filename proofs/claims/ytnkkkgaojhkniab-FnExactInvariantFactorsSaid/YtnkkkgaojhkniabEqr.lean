/- Walks: rows compared. -/
import Derived.Test.YtnkkkgaojhkniabSp8
set_option linter.unusedVariables false
set_option linter.unusedSimpArgs false
namespace Go.Proofs.Ytnkkkgaojhkniab
open Go.RowKit

set_option maxHeartbeats 1000000 in
theorem equalRows_any (va vb : Value) (xs ys : List Int) (w : World) (ha : IsRow w va xs) (hb : IsRow w vb ys) (b : Bool) (h : decide (xs = ys) = b) :
    Calls Try.prog 36 #[va, vb] w fun e w' => e = .returned (.bool b) ∧ Below w.heap.size w w' := by
  have haH := Lib.hid ha
  have hbH := Lib.hid hb
  obtain ⟨oa, ca, rfl, hlea, hcapa, hca⟩ := ha
  obtain ⟨ob, cb, rfl, hleb, hcapb, hcb⟩ := hb
  have hcaH := Lib.hid hca
  have hcbH := Lib.hid hcb
  have hH := Lib.hid h
  unfold maxLen at hcapa hcapb
  clear hca hcb h
  by_cases hl : xs.length = ys.length
  · have hl2 : ((xs.length : Int) == (ys.length : Int)) = true := by rw [hl, beq_self_eq_true]
    have hfull : (∀ j, j < xs.length → cf xs j = cf ys j) → b = true := fun h => by
      rw [← hH.out]; refine decide_eq_true (list_ext_cf hl fun i => ?_)
      by_cases hi : i < xs.length
      · exact h i hi
      · rw [cf_ge _ _ (by omega), cf_ge _ _ (by omega)]
    have hno : ∀ j, cf xs j ≠ cf ys j → b = false := fun j h => by
      rw [← hH.out]; refine decide_eq_false fun e => h (by rw [e])
    have hfullH := Lib.hid hfull
    have hnoH := Lib.hid hno
    clear hfull hno
    generalize hL : xs.length = L at *
    have hL2 : ys.length = L := hl.symm
    rw [hL2] at hcbH hleb hl2 hbH ⊢
    clear hL2 hl hL
    go_enter Try.func36, Try.ntmps36
    go_wp2_with fail
    go_loopw [13] (fun i wr => ∃ k : Nat, k ≤ L ∧ i = .int .i64 k ∧ (∀ j, j < k → cf xs j = cf ys j) ∧ Below w.heap.size w wr) (fun i _ => L - (intOf i).toNat)
    case atStart => exact ⟨0, by omega, rfl, fun j hj => by omega, Below.refl _ _⟩
    case round =>
      obtain ⟨k, hk, rfl, hall, hb⟩ := hrel
      have hallH := Lib.hid hall
      clear hall
      by_cases hlt : k < L
      · obtain ⟨b1, o1, rfl, hc1⟩ := hcaH.out (by omega)
        obtain ⟨b2, o2, rfl, hc2⟩ := hcbH.out (by omega)
        have c1 := cell_below (hc1 k hlt) hb
        have c2 := cell_below (hc2 k hlt) hb
        have hi0 : (0 : Int) ≤ (k : Int) := by omega
        have hi1 : (k : Int) < (L : Int) := by omega
        clear hc1 hc2
        by_cases he : cf xs k = cf ys k
        · have heH := Lib.hid he
          have heb : (cf xs k == cf ys k) = true := by rw [he, beq_self_eq_true]
          clear he
          go_wp2_with fail
          go_quiet (fail)
          go_wp2
          go_roundw
          case rel => exact ⟨k + 1, by omega, by go_num, fun j hj => by
            by_cases e1 : j = k
            · subst e1; exact heH.out
            · exact hallH.out j (by omega), ⟨hb.os, hb.tape, hb.output, hb.size, hb.block⟩⟩
          case measure => simp [intOf] <;> omega
        · have hf := hnoH.out k he
          subst hf
          have heb : (cf xs k == cf ys k) = false := beq_eq_false_iff_ne.2 he
          clear he
          go_wp2_with fail
          go_quiet (fail)
          go_wp2
          go_ret
          exact ⟨rfl, ⟨hb.os, hb.tape, hb.output, hb.size, hb.block⟩⟩
      · obtain rfl : k = L := by omega
        have ht := hfullH.out hallH.out
        subst ht
        go_wp2_with fail
        go_ret
        exact ⟨rfl, hb⟩
  · have hf : b = false := by rw [← hH.out]; exact decide_eq_false fun e => hl (by rw [e])
    subst hf
    have hl2 : ((xs.length : Int) == (ys.length : Int)) = false := by rw [beq_eq_false_iff_ne]; omega
    clear hcaH hcbH hH haH hbH
    go_enter Try.func36, Try.ntmps36
    go_wp2_with fail
    go_ret
    exact ⟨rfl, Below.refl _ _⟩
end Go.Proofs.Ytnkkkgaojhkniab
