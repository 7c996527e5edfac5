/- Walks: polynomials out of rows. -/
import Derived.Test.YthkkicanockhgaaW9
namespace Go.Proofs.Ythkkicanockhgaa
open Go.RowKit

set_option maxHeartbeats 400000 in
theorem fits_any (v : Value) (xs : List Int) (w : World) (h : IsRow w v xs) (b : Bool) (hb : decide (xs.length ≤ 64) = b) :
    Calls Try.prog 72 #[v] w fun e w' => e = .returned (.bool b) ∧ w = w' := by
  have hd := Lib.hid (degree_any v xs w h)
  have hb2 : decide (((xs.length : Int) - 1) ≤ 63) = b := by rw [← hb]; apply decide_eq_decide.2; omega
  clear h hb
  go_enter Try.func72, Try.ntmps72
  go_wp2_with fail
  refine hd.out.mono ?_
  rintro e w1 ⟨rfl, rfl⟩
  go_wp2_with fail
  go_ret
  exact ⟨rfl, rfl⟩

set_option maxHeartbeats 400000 in
theorem poly_any (v : Value) (xs : List Int) (w : World) (h : IsRow w v xs) (hx : ∀ i, 0 ≤ cf xs i ∧ cf xs i ≤ 255) (hL : xs.length ≤ 64) :
    Calls Try.prog 61 #[v] w fun e w' => e = .returned (.agg (u8s 64 (cf xs))) ∧ Below w.heap.size w w' := by
  obtain ⟨oa, cap, rfl, hle, hcap, hcell⟩ := h
  have hcellH := Lib.hid hcell
  have hxH := Lib.hid hx
  clear hcell hx hcap
  obtain ⟨hb0, hB1, hB2⟩ := boxes2 w (u8s 64 fun _ => 0) (u8s 64 fun _ => 0) 23 23
  have hzH := Lib.hid ((fun i (hi : xs.length ≤ i) => cf_ge xs i hi))
  go_enter Try.func61, Try.ntmps61
  go_wp2_with (first | (refine wpl_alloc_arr rfl 23 rfl _ zPoly ?_))
  go_loopw [8] (fun i wr => ∃ k : Nat, k ≤ xs.length ∧ i = .int .i64 k ∧ Blk wr w.heap.size (u8s 64 fun _ => 0) 23 ∧ Blk wr (w.heap.size + 1) (u8s 64 fun j => if j < k then cf xs j else 0) 23 ∧ Below w.heap.size w wr) (fun i _ => xs.length - (intOf i).toNat)
  case atStart => exact ⟨0, by omega, rfl, hB1, hB2.cast (u8s_ext fun j _ => by simp), hb0⟩
  case round =>
    clear hB1 hB2 hb0
    obtain ⟨k, hk, rfl, b0, b1, hb⟩ := hrel
    by_cases hlt : k < xs.length
    · obtain ⟨b, off, rfl, hc⟩ := hcellH.out (by omega)
      have c0 : wr.cell? ⟨b, off + k, none⟩ = some (.int .i64 (cf xs k)) := by rw [hb.cell (block_lt_of_cell (hc k hlt))]; exact hc k hlt
      have c1 : wr.cell? ⟨w.heap.size + 1, k, none⟩ = some (.int .u8 0) := by rw [b1.cell, u8s_get _ (by omega)]; simp
      have c2 := b1.free k
      have hz := hxH.out k
      have hz0 := hz.1
      have hz1 := hz.2
      have hk64 : (k : Int) < 64 := by omega
      clear hc hz
      go_wp2_with fail
      go_roundw
      case rel =>
        refine ⟨k + 1, by omega, by go_num, b0.set_other _ _ (by simp), ?_, hb.setCell (by simp) _⟩
        refine (b1.set k _).cast ?_
        rw [u8s_set]; apply u8s_ext; intro j _
        by_cases e1 : j = k
        · subst e1; simp
        · by_cases e2 : j < k
          · simp [e1, e2, show j < k + 1 by omega]
          · simp [e1, e2, show ¬ j < k + 1 by omega]
      case measure => simp [intOf] <;> omega
    · obtain rfl : k = xs.length := by omega
      have b2 := b1.cast (u8s_ext (g := cf xs) fun j _ => by
        by_cases h : j < xs.length
        · rw [if_pos h]
        · rw [if_neg h, hzH.out j (by omega)])
      clear b1
      go_wp2_with (first | (refine wpl_load_arr rfl 23 _ rfl _ rfl _ _ b2 _ _ uPoly sPoly ?_) | (refine wpl_store_arr rfl 23 _ _ rfl _ rfl _ rfl _ _ b0 sPoly rfl (u8s_oneCell _ _) ?_))
      exact bodyPost_ret (res_c rfl rfl (b0.setRow_same (cs := u8s 64 (cf xs))) uPoly sPoly) rfl ⟨rfl, below_setRow hb (by omega) _⟩

/-- What told gives. -/
def toldF (xs : List Int) : Nat → Int := if xs.length ≤ 64 then cf xs else fun _ => 0
def toldC (xs : List Int) : Int := if xs.length ≤ 64 then 0 else 3
set_option maxHeartbeats 400000 in
theorem told_any (v : Value) (xs : List Int) (w : World) (h : IsRow w v xs) (hx : ∀ i, 0 ≤ cf xs i ∧ cf xs i ≤ 255) :
    Calls Try.prog 47 #[v] w fun e w' => e = .returned (.tuple #[.agg (u8s 64 (toldF xs)), .int .i64 (toldC xs)]) ∧ Below w.heap.size w w' := by
  have hb0 := below_new w (.cells (u8s 64 fun _ => 0) 23)
  have hB := Blk.new w (u8s 64 fun _ => 0) 23
  have hr := h.below hb0
  by_cases hL : xs.length ≤ 64
  · have hf := Lib.hid (fits_any v xs _ hr true (by simpa using hL))
    have hp := Lib.hid (poly_any v xs _ hr hx hL)
    have e1 : toldF xs = cf xs := if_pos hL
    have e2 : toldC xs = 0 := if_pos hL
    rw [e1, e2]
    clear h hr hx
    go_enter Try.func47, Try.ntmps47
    go_wp2_with (first | (refine wpl_alloc_arr rfl 23 rfl _ zPoly ?_))
    refine hf.out.mono ?_
    rintro e w1 ⟨rfl, rfl⟩
    go_wp2_with fail
    refine hp.out.mono ?_
    rintro e w1 ⟨rfl, hb1⟩
    have hB1 := hB.keep hb1
    have hb2 := below_step hb0 hb1
    go_wp2_with (refine wpl_store_arr rfl 23 _ _ rfl _ rfl _ rfl _ _ hB1 sPoly rfl (u8s_oneCell _ _) ?_)
    exact bodyPost_ret (res_ct rfl rfl (hB1.setRow_same (cs := u8s 64 (cf xs))) uPoly sPoly rfl) rfl ⟨rfl, below_setRow hb2 (by omega) _⟩
  · have hf := Lib.hid (fits_any v xs _ hr false (by simpa using hL))
    have e1 : toldF xs = fun _ => 0 := if_neg hL
    have e2 : toldC xs = 3 := if_neg hL
    rw [e1, e2]
    clear h hr hx
    go_enter Try.func47, Try.ntmps47
    go_wp2_with (first | (refine wpl_alloc_arr rfl 23 rfl _ zPoly ?_))
    refine hf.out.mono ?_
    rintro e w1 ⟨rfl, rfl⟩
    go_wp2_with (first | (refine wpl_build_zero rfl 23 64 5 rfl _ uPoly sByte zPoly ?_) | (refine wpl_store_arr rfl 23 _ _ rfl _ rfl _ rfl _ _ hB sPoly rfl (u8s_oneCell _ _) ?_))
    exact bodyPost_ret (res_ct rfl rfl (hB.setRow_same (cs := u8s 64 fun _ => 0)) uPoly sPoly rfl) rfl ⟨rfl, below_setRow hb0 (by omega) _⟩
end Go.Proofs.Ythkkicanockhgaa
