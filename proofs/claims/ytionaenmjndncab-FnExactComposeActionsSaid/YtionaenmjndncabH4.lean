/- Walks: a list marked: what else stays. -/
import Derived.OwnWalk
import Derived.Test.YtionaenmjndncabH3
import Derived.Test.YtionaenmjndncabOpenS
set_option linter.unusedVariables false
set_option linter.unusedSimpArgs false
namespace Go.Proofs.Ytionaenmjndncab
open Go.RowKit
theorem grown_trans {w w' w'' : World} {row : Option Nat} (h : w.grownBy w' row) (h' : w'.grownBy w'' row) : w.grownBy w'' row :=
  ⟨h'.os.trans h.os, h'.tape.trans h.tape, h'.output.trans h.output, Nat.le_trans h.size h'.size, fun k hk hne => (h'.block k (Nat.lt_of_lt_of_le hk h.size) hne).trans (h.block k hk hne)⟩
theorem PlS.kept {w w' : World} {B : Nat} {v : Value} {n : Nat} {M : Nat → List Int} {row : Option Nat} (h : PlS w B v n M) (hg : w.grownBy w' row) (hne : v.ownBlock = none ∨ v.ownBlock ≠ row) : PlS w' B v n M := World.ownsRow.kept h hg hne
theorem Fl.kept {w w' : World} {B : Nat} {v : Value} {n : Nat} {F : Nat → Int} {row : Option Nat} (h : Fl w B v n F) (hg : w.grownBy w' row) (hne : v.ownBlock = none ∨ v.ownBlock ≠ row) : Fl w' B v n F := World.ownsRow.kept h hg hne
set_option maxRecDepth 20000 in
set_option maxHeartbeats 1000000 in
theorem markPolyS_grown (v : Value) (n B k0 : Nat) (F : Nat → Int) (w : World) (h : Fl w B v n F) (hn : n ≤ 10000000) (hk0 : k0 ≤ 10000000000) :
    Calls Try.prog 16 #[v, .int .i64 (k0 : Int)] w fun e w' => e = .returned (.int .i64 ((k0 : Int) + (n : Int) * 64)) ∧ Fl w' B v n (mkF k0) ∧ w.grownBy w' v.ownBlock := by
  by_cases h0 : n = 0
  · subst h0
    obtain ⟨oa, ca, rfl⟩ := PlS.slice (M := fun _ => []) (show PlS w B v 0 _ from h)
    have hH := Lib.hid h
    clear h
    go_enter Try.func16, Try.ntmps16
    go_wp2_with fail
    go_loopw [1, 5] (fun kv i wr => kv = .int .i64 (k0 : Int) ∧ i = .int .i64 0 ∧ wr = w) (fun _ _ _ => 0)
    case atStart => exact ⟨rfl, rfl, rfl⟩
    case round =>
      obtain ⟨rfl, rfl, rfl⟩ := hrel
      go_wp2_with fail
      go_ret
      exact ⟨by simp, hH.out, World.grownBy.refl _ _⟩
  · obtain ⟨g, cap, rfl, hg⟩ := owns_form h (by omega)
    have hH := Lib.hid h
    clear h
    go_enter Try.func16, Try.ntmps16
    go_wp2_with fail
    go_loopw [1, 5] (fun kv i wr => ∃ q : Nat, q ≤ n ∧ i = .int .i64 (q : Int) ∧ kv = .int .i64 ((k0 : Int) + (q : Int) * 64) ∧ Hid (Fl wr B (.slice (some ⟨g, 0, none⟩) n cap) n (fun j => if j < q * 64 then mkF k0 j else F j)) ∧ w.grownBy wr (some g)) (fun _ i _ => n - (intOf i).toNat)
    case atStart => exact ⟨0, by omega, rfl, by simp, Lib.hid (hH.out.ext fun j hj => by rw [if_neg (by omega)]), World.grownBy.refl _ _⟩
    case round =>
      obtain ⟨q, hq, rfl, rfl, hF, hb⟩ := hrel
      by_cases hlt : q < n
      · go_wp2_with fail
        go_loopw [1, 6] (fun kv jv wq => ∃ r : Nat, r ≤ 64 ∧ jv = .int .i64 (r : Int) ∧ kv = .int .i64 ((k0 : Int) + ((q : Int) * 64 + (r : Int))) ∧ Hid (Fl wq B (.slice (some ⟨g, 0, none⟩) n cap) n (fun j => if j < q * 64 + r then mkF k0 j else F j)) ∧ w.grownBy wq (some g)) (fun _ jv _ => 64 - (intOf jv).toNat)
        case atStart => exact ⟨0, by omega, rfl, by simp, by rw [Nat.add_zero]; exact hF, hb⟩
        case round =>
          clear hF hb
          obtain ⟨r, hr, rfl, rfl, hF, hb⟩ := hrel
          by_cases hr2 : r < 64
          · have c0 := hF.out.cell (q * 64 + r) (by omega)
            have c1 := World.ownsRow.frozenAt hF.out (q * 64 + r)
            have hw := mk_wrap k0 q r
            have hst := Lib.hid (hF.out.stored (q * 64 + r) (by omega) (mkF k0 (q * 64 + r)))
            have hgt := Lib.hid (grown_trans hb (World.ownsRow.stored hF.out (q * 64 + r) (.int .u8 (mkF k0 (q * 64 + r)))).2)
            go_wp2_with fail
            go_roundw
            case rel =>
              refine ⟨r + 1, by omega, by go_num, by go_num, Lib.hid (hst.out.ext fun j hj => ?_), hgt.out⟩
              by_cases e : j = q * 64 + r
              · rw [if_pos e, if_pos (by omega), e]
              · rw [if_neg e]
                by_cases e2 : j < q * 64 + r
                · rw [if_pos e2, if_pos (by omega)]
                · rw [if_neg e2, if_neg (by omega)]
            case measure => simp [intOf] <;> omega
          · obtain rfl : r = 64 := by omega
            go_wp2_with fail
            go_roundw
            case rel => exact ⟨q + 1, by omega, by go_num, by first | go_num | (congr 1; omega), by rw [show (q + 1) * 64 = q * 64 + 64 by omega]; exact hF, hb⟩
            case measure => simp [intOf] <;> omega
      · obtain rfl : q = n := by omega
        go_wp2_with fail
        go_ret
        exact ⟨rfl, hF.out.ext fun j hj => if_pos hj, hb⟩
end Go.Proofs.Ytionaenmjndncab
