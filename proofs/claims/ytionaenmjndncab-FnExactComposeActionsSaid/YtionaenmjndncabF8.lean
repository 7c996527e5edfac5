/- Walks: lists of polynomials marked and held. -/
import Derived.Test.YtionaenmjndncabF7
set_option linter.unusedVariables false
set_option linter.unusedSimpArgs false
namespace Go.Proofs.Ytionaenmjndncab
open Go.RowKit
/-- The marks: byte j is k0 + j. -/
def mkF (k0 : Nat) (j : Nat) : Int := ((k0 + j : Nat) : Int) % 256
def Fl (w : World) (B : Nat) (v : Value) (n : Nat) (F : Nat → Int) : Prop := w.ownsRow B 23 64 v n ((List.range (n * 64)).map fun j => .int .u8 (F j))
theorem PlS.fl {w : World} {B : Nat} {v : Value} {n : Nat} {M : Nat → List Int} (h : PlS w B v n M) : Fl w B v n (fun j => cf (M (j / 64)) (j % 64)) := h
theorem Fl.below {w w' : World} {B : Nat} {v : Value} {n : Nat} {F : Nat → Int} (h : Fl w B v n F) (hb : Below w.heap.size w w') : Fl w' B v n F := owns_below' h hb
theorem Fl.ext {w : World} {B : Nat} {v : Value} {n : Nat} {F G : Nat → Int} (h : Fl w B v n F) (e : ∀ j, j < n * 64 → F j = G j) : Fl w B v n G := by
  unfold Fl at *
  rw [← show (List.range (n * 64)).map (fun j => Value.int .u8 (F j)) = (List.range (n * 64)).map (fun j => Value.int .u8 (G j)) from List.map_congr_left fun j hj => by rw [e j (List.mem_range.1 hj)]]
  exact h
theorem Fl.cell {w : World} {B g n cap : Nat} {F : Nat → Int} (h : Fl w B (.slice (some ⟨g, 0, none⟩) n cap) n F) (j : Nat) (hj : j < n * 64) : w.cell? ⟨g, j, none⟩ = some (.int .u8 (F j)) := by
  rw [World.ownsRow.cellAt h j hj, List.getElem?_map, List.getElem?_range hj]; rfl
theorem Fl.stored {w : World} {B g n cap : Nat} {F : Nat → Int} (h : Fl w B (.slice (some ⟨g, 0, none⟩) n cap) n F) (j : Nat) (hj : j < n * 64) (u : Int) :
    Fl (w.setCell ⟨g, j, none⟩ (.int .u8 u)) B (.slice (some ⟨g, 0, none⟩) n cap) n (fun q => if q = j then u else F q) := by
  have h1 := (World.ownsRow.stored h j (.int .u8 u)).1
  unfold Fl
  have e : ((List.range (n * 64)).map fun q => Value.int .u8 (F q)).set j (.int .u8 u) = (List.range (n * 64)).map fun q => Value.int .u8 (if q = j then u else F q) := by
    apply List.ext_getElem?
    intro i
    rw [List.getElem?_set, List.getElem?_map]
    by_cases h2 : i < n * 64
    · rw [List.getElem?_range h2, List.getElem?_map, List.getElem?_range h2]
      by_cases h3 : j = i
      · subst h3; simp [hj]
      · rw [if_neg h3]; simp only [Option.map_some]; rw [if_neg (fun e => h3 e.symm)]
    · rw [List.getElem?_eq_none (l := List.range (n * 64)) (by simp; omega), List.getElem?_map, List.getElem?_eq_none (l := List.range (n * 64)) (by simp; omega)]
      by_cases h3 : j = i
      · omega
      · rw [if_neg h3]; rfl
  rw [e] at h1
  exact h1
theorem mk_wrap (k0 q r : Nat) : IntKind.u8.wrap ((k0 : Int) + ((q : Int) * 64 + (r : Int))) = mkF k0 (q * 64 + r) := by
  unfold mkF
  rw [IntKind.wrap_u8]
  congr 1
  try omega
set_option maxRecDepth 20000 in
set_option maxHeartbeats 1000000 in
theorem markPolyS_any (v : Value) (n B k0 : Nat) (F : Nat → Int) (w : World) (h : Fl w B v n F) (hn : n ≤ 10000000) (hk0 : k0 ≤ 10000000000) (hB : B ≤ w.heap.size) :
    Calls Try.prog 16 #[v, .int .i64 (k0 : Int)] w fun e w' => e = .returned (.int .i64 ((k0 : Int) + (n : Int) * 64)) ∧ Fl w' B v n (mkF k0) ∧ Below B w w' := by
  by_cases h0 : n = 0
  · subst h0
    obtain ⟨oa, ca, rfl⟩ := PlS.slice (M := fun _ => []) (show PlS w B v 0 _ from h)
    have hH := Lib.hid h
    clear h
    go_enter Try.func16, Try.ntmps16
    go_wp2_with fail
    go_loopw [1, 5] (fun kv i wr => kv = .int .i64 (k0 : Int) ∧ i = .int .i64 0 ∧ wr = w) (fun _ _ _ => 0)
    case atStart => exact ⟨rfl, rfl, rfl⟩
    case round =>
      obtain ⟨rfl, rfl, rfl⟩ := hrel
      go_wp2_with fail
      go_ret
      exact ⟨by simp, hH.out, Below.refl _ _⟩
  · obtain ⟨g, cap, rfl, hg⟩ := owns_form h (by omega)
    have hH := Lib.hid h
    clear h
    go_enter Try.func16, Try.ntmps16
    go_wp2_with fail
    go_loopw [1, 5] (fun kv i wr => ∃ q : Nat, q ≤ n ∧ i = .int .i64 (q : Int) ∧ kv = .int .i64 ((k0 : Int) + (q : Int) * 64) ∧ Hid (Fl wr B (.slice (some ⟨g, 0, none⟩) n cap) n (fun j => if j < q * 64 then mkF k0 j else F j)) ∧ Below B w wr) (fun _ i _ => n - (intOf i).toNat)
    case atStart => exact ⟨0, by omega, rfl, by simp, Lib.hid (hH.out.ext fun j hj => by rw [if_neg (by omega)]), Below.refl _ _⟩
    case round =>
      obtain ⟨q, hq, rfl, rfl, hF, hb⟩ := hrel
      by_cases hlt : q < n
      · go_wp2_with fail
        go_loopw [1, 6] (fun kv jv wq => ∃ r : Nat, r ≤ 64 ∧ jv = .int .i64 (r : Int) ∧ kv = .int .i64 ((k0 : Int) + ((q : Int) * 64 + (r : Int))) ∧ Hid (Fl wq B (.slice (some ⟨g, 0, none⟩) n cap) n (fun j => if j < q * 64 + r then mkF k0 j else F j)) ∧ Below B w wq) (fun _ jv _ => 64 - (intOf jv).toNat)
        case atStart => exact ⟨0, by omega, rfl, by simp, by rw [Nat.add_zero]; exact hF, hb⟩
        case round =>
          clear hF hb
          obtain ⟨r, hr, rfl, rfl, hF, hb⟩ := hrel
          by_cases hr2 : r < 64
          · have c0 := hF.out.cell (q * 64 + r) (by omega)
            have c1 := World.ownsRow.frozenAt hF.out (q * 64 + r)
            have hw := mk_wrap k0 q r
            have hst := Lib.hid (hF.out.stored (q * 64 + r) (by omega) (mkF k0 (q * 64 + r)))
            go_wp2_with fail
            go_roundw
            case rel =>
              refine ⟨r + 1, by omega, by go_num, by go_num, Lib.hid (hst.out.ext fun j hj => ?_), hb.setCell (by show B ≤ g; exact hg) _⟩
              by_cases e : j = q * 64 + r
              · rw [if_pos e, if_pos (by omega), e]
              · rw [if_neg e]
                by_cases e2 : j < q * 64 + r
                · rw [if_pos e2, if_pos (by omega)]
                · rw [if_neg e2, if_neg (by omega)]
            case measure => simp [intOf] <;> omega
          · obtain rfl : r = 64 := by omega
            go_wp2_with fail
            go_roundw
            case rel => exact ⟨q + 1, by omega, by go_num, by first | go_num | (congr 1; omega), by rw [show (q + 1) * 64 = q * 64 + 64 by omega]; exact hF, hb⟩
            case measure => simp [intOf] <;> omega
      · obtain rfl : q = n := by omega
        go_wp2_with fail
        go_ret
        exact ⟨rfl, hF.out.ext fun j hj => if_pos hj, hb⟩
set_option maxRecDepth 20000 in
set_option maxHeartbeats 1000000 in
theorem heldPolyS_any (v : Value) (n B k0 : Nat) (w : World) (h : Fl w B v n (mkF k0)) (hn : n ≤ 10000000) (hk0 : k0 ≤ 10000000000) :
    Calls Try.prog 17 #[v, .int .i64 (k0 : Int)] w fun e w' => e = .returned (.int .i64 ((k0 : Int) + (n : Int) * 64)) ∧ w = w' := by
  by_cases h0 : n = 0
  · subst h0
    obtain ⟨oa, ca, rfl⟩ := PlS.slice (M := fun _ => []) (show PlS w B v 0 _ from h)
    clear h
    go_enter Try.func17, Try.ntmps17
    go_wp2_with fail
    go_loopw [1, 5] (fun kv i wr => kv = .int .i64 (k0 : Int) ∧ i = .int .i64 0 ∧ wr = w) (fun _ _ _ => 0)
    case atStart => exact ⟨rfl, rfl, rfl⟩
    case round =>
      obtain ⟨rfl, rfl, rfl⟩ := hrel
      go_wp2_with fail
      go_ret
      exact ⟨rfl, rfl⟩
  · obtain ⟨g, cap, rfl, _⟩ := owns_form h (by omega)
    have hF := Lib.hid h
    clear h
    go_enter Try.func17, Try.ntmps17
    go_wp2_with fail
    go_loopw [1, 5] (fun kv i wr => ∃ q : Nat, q ≤ n ∧ i = .int .i64 (q : Int) ∧ kv = .int .i64 ((k0 : Int) + (q : Int) * 64) ∧ wr = w) (fun _ i _ => n - (intOf i).toNat)
    case atStart => exact ⟨0, by omega, rfl, by simp, rfl⟩
    case round =>
      obtain ⟨q, hq, rfl, rfl, rfl⟩ := hrel
      by_cases hlt : q < n
      · go_wp2_with fail
        rename World => w5
        go_loopw [1, 6] (fun kv jv wq => ∃ r : Nat, r ≤ 64 ∧ jv = .int .i64 (r : Int) ∧ kv = .int .i64 ((k0 : Int) + ((q : Int) * 64 + (r : Int))) ∧ wq = w5) (fun _ jv _ => 64 - (intOf jv).toNat)
        case atStart => exact ⟨0, by omega, rfl, by simp, rfl⟩
        case round =>
          obtain ⟨r, hr, rfl, rfl, rfl⟩ := hrel
          by_cases hr2 : r < 64
          · have c0 := hF.out.cell (q * 64 + r) (by omega)
            have hw := mk_wrap k0 q r
            go_wp2_with fail
            go_roundw
            case rel => exact ⟨r + 1, by omega, by go_num, by go_num, by first | rfl | trivial⟩
            case measure => simp [intOf] <;> omega
          · obtain rfl : r = 64 := by omega
            go_wp2_with fail
            go_roundw
            case rel => exact ⟨q + 1, by omega, by go_num, by first | go_num | (congr 1; omega), by first | rfl | trivial⟩
            case measure => simp [intOf] <;> omega
      · obtain rfl : q = n := by omega
        go_wp2_with fail
        go_ret
        exact ⟨rfl, rfl⟩
end Go.Proofs.Ytionaenmjndncab
