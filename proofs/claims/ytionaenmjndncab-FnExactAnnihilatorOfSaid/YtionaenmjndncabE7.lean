/- Walks: the reference's raise. -/
import Derived.Test.YtionaenmjndncabE6
set_option linter.unusedVariables false
set_option linter.unusedSimpArgs false
namespace Go.Proofs.Ytionaenmjndncab
open Go.RowKit

/-- What the reference's raise gives. -/
def raiF (xs : List Int) (q : Nat) : Nat → Int := if (xs.length - 1) * q ≤ 63 then cf (sprd xs q) else fun _ => 0
theorem npow_le {P : Nat} (hP : 1 ≤ P) {m i : Nat} (h : m ≤ i) : P ^ m ≤ P ^ i := Nat.pow_le_pow_right hP h
set_option maxRecDepth 20000 in
set_option maxHeartbeats 2000000 in
theorem l04Raise_any (xs : List Int) (p : Int) (P i q : Nat) (w : World) (hx : P64 p xs) (hP : p = P) (hq : q = P ^ i) (hi : i ≤ 6) (d : Bool) (hd : decide ((xs.length - 1) * q ≤ 63) = d) :
    Calls Try.prog 49 #[.int .i64 p, .agg (u8s 64 (cf xs)), .int .i64 i] w fun e w' => e = .returned (.tuple #[.agg (u8s 64 (raiF xs q)), .bool d]) ∧ Below w.heap.size w w' := by
  obtain ⟨q1, q2, q3⟩ := q_bounds hx.pr hP hq hi
  have hp2 := hx.pr.pos
  have hP1 : 2 ≤ P := by omega
  have hdg := Lib.hid (fun w => l01Deg_list p xs w hx)
  have hrng := Lib.hid (fun i => hx.rng i)
  have hL64 := hx.le
  have hfalse := Lib.hid (fun (k m : Nat) (hk : k < xs.length) (hm : m ≤ i) (h : 63 < k * P ^ m) => show d = false by
    rw [← hd]; refine decide_eq_false fun h2 => ?_
    have h3 : k * P ^ m ≤ (xs.length - 1) * q := by rw [hq]; exact Nat.mul_le_mul (by omega) (npow_le (by omega) hm)
    omega)
  have htop : (∀ k, k < xs.length → cf xs k = 0 ∨ k * q ≤ 63) → d = true := fun h => by
    rw [← hd]; refine decide_eq_true ?_
    by_cases h0 : xs.length = 0
    · rw [h0]; simp
    · rcases h (xs.length - 1) (by omega) with h1 | h1
      · rcases hx.po.tr with h2 | h2
        · exact absurd h2 h0
        · exact absurd h1 h2
      · exact h1
  have htopH := Lib.hid htop
  have hres := Lib.hid (fun (h : d = true) (n : Nat) => show sprF xs q xs.length n = raiF xs q n by
    unfold raiF
    rw [if_pos (of_decide_eq_true (hd.trans h))]
    exact sprF_all xs q1 (Nat.le_refl _) n)
  have hresF := Lib.hid (fun (h : d = false) => show raiF xs q = fun _ => 0 from if_neg (of_decide_eq_false (hd.trans h)))
  have hstep := Lib.hid (fun k n => sprF_step xs q1 k n)
  have hskip := Lib.hid (fun k (hz : cf xs k = 0) n => sprF_skip xs q1 hz n)
  have hat := Lib.hid (fun k => sprF_at xs q1 k)
  have hqH := Lib.hid hq
  generalize hL : xs.length = L at *
  clear hL htop hd hx hq q3
  subst hP
  obtain ⟨hb, hA, hZ⟩ := boxes2 w (u8s 64 (cf xs)) (u8s 64 fun _ => 0) 23 23
  go_enter Try.func49, Try.ntmps49
  go_wp2_with ((with_reducible refine wpl_guard ?_); first | (refine wpl_alloc_arr rfl 23 rfl _ zPoly ?_) | (refine wpl_build_zero rfl 23 64 5 rfl _ uPoly sByte zPoly ?_) | (refine wpl_load_arr rfl 23 _ rfl _ rfl _ _ hA _ _ uPoly sPoly ?_))
  refine (hdg.out _).mono ?_
  rintro e w1 ⟨rfl, hn⟩
  replace hA := hA.keep hn
  replace hZ := hZ.keep hn
  replace hb := below_step hb hn
  have hQ0 : w1.heap.size ≠ w.heap.size := by have := hA.lt; omega
  have hQ1 : w1.heap.size ≠ w.heap.size + 1 := by have := hZ.lt; omega
  have hge : w.heap.size ≤ w1.heap.size := by have := hA.lt; omega
  clear hn
  go_wp2_with ((with_reducible refine wpl_guard ?_); first | (refine wpl_alloc_arr rfl 23 rfl _ zPoly ?_) | (refine wpl_store_new rfl 23 _ _ rfl _ rfl rfl _ rfl sPoly (by simp only [u8s_size]) (u8s_oneCell _ _) ?_))
  have hN := Blk.new w1 (u8s 64 fun _ => 0) 23
  replace hA := hA.alloc (.cells (u8s 64 fun _ => 0) 23)
  replace hZ := hZ.alloc (.cells (u8s 64 fun _ => 0) 23)
  replace hb := below_step hb (below_new w1 (.cells (u8s 64 fun _ => 0) 23))
  go_loopw [10] (fun kk wr => ∃ k : Nat, k ≤ L ∧ kk = .int .i64 k ∧ Blk wr w.heap.size (u8s 64 (cf xs)) 23 ∧ Blk wr (w.heap.size + 1) (u8s 64 fun _ => 0) 23 ∧ Blk wr w1.heap.size (u8s 64 (sprF xs q k)) 23 ∧ (∀ j, j < k → cf xs j = 0 ∨ j * q ≤ 63) ∧ Below w.heap.size w wr) (fun kk _ => 64 - (intOf kk).toNat)
  case atStart => exact ⟨0, by omega, rfl, hA, hZ, hN.cast (u8s_ext fun n _ => by rw [sprF_zero]), fun j hj => absurd hj (by omega), hb⟩
  case round =>
    clear hA hZ hN hb
    obtain ⟨k, hk, rfl, hA, hZ, hN, hall, hb⟩ := hrel
    have hallH := Lib.hid hall
    clear hall
    by_cases hlt : k < L
    · have c0 : wr.cell? ⟨w.heap.size, k, none⟩ = some (.int .u8 (cf xs k)) := by rw [hA.cell, u8s_get _ (by omega)]
      have hr1 := (hrng.out k).1
      have hr2 := (hrng.out k).2
      have hk64 : (k : Int) < 64 := by omega
      by_cases hz : cf xs k = 0
      · have hzb : (cf xs k == 0) = true := by simpa using hz
        have hzH := Lib.hid hz
        clear hz
        go_wp2_with fail
        go_roundw
        case rel => exact ⟨k + 1, by omega, by go_num, hA, hZ, hN.cast (u8s_ext fun n _ => (hskip.out k hzH.out n).symm), fun j hj => by
          by_cases e1 : j = k
          · subst e1; exact Or.inl hzH.out
          · exact hallH.out j (by omega), hb⟩
        case measure => simp [intOf] <;> omega
      · have hzb : (cf xs k == 0) = false := by simpa using hz
        clear hz
        go_wp2_with fail
        go_loop [11, 12] (fun at_ jj => ∃ m : Nat, m ≤ i ∧ jj = .int .i64 m ∧ at_ = .int .i64 ((k * P ^ m : Nat) : Int) ∧ k * P ^ m ≤ 63) (fun _ jj => i - (intOf jj).toNat)
        case atStart => exact ⟨0, by omega, rfl, by simp, by simp; omega⟩
        case round =>
          obtain ⟨m, hm, rfl, rfl, hle⟩ := hrel
          by_cases hend : m < i ∧ 0 < k
          · obtain ⟨hmi, hk0⟩ := hend
            have hpos : 0 < k * P ^ m := Nat.mul_pos hk0 (Nat.pow_pos (by omega))
            have hnx : k * P ^ m * P = k * P ^ (m + 1) := by rw [Nat.pow_succ, Nat.mul_assoc]
            obtain ⟨t, ht⟩ : ∃ t, k * P ^ m = t := ⟨_, rfl⟩
            rw [ht] at hle hpos hnx ⊢
            have hnxH := Lib.hid hnx
            have hmu : (t : Int) * (P : Int) = ((t * P : Nat) : Int) := by push_cast; rfl
            have hmb : t * P ≤ 63 * 7 := Nat.mul_le_mul hle (by omega)
            clear ht hnx
            have hpos2 : 0 < (t : Int) := by omega
            have hmi2 : (m : Int) < (i : Int) := by omega
            generalize hu : t * P = u at *
            have huH := Lib.hid hu
            clear hu
            by_cases hbig : 63 < u
            · have hdf := hfalse.out k (m + 1) hlt (by omega) (by rw [← hnxH.out]; exact hbig)
              subst hdf
              have hrf := Lib.hid (hresF.out rfl)
              have hbig2 : 63 < (u : Int) := by omega
              go_wp2_with ((with_reducible refine wpl_guard ?_); first | (refine wpl_build_zero rfl 23 64 5 rfl _ uPoly sByte zPoly ?_) | (refine wpl_store_arr rfl 23 _ _ rfl _ rfl _ rfl _ _ hZ sPoly (by simp only [u8s_size]) (u8s_oneCell _ _) ?_))
              exact bodyPost_ret (res_ct (x := .bool false) rfl rfl (hZ.setRow_same (cs := u8s 64 fun _ => 0)) uPoly sPoly rfl) rfl ⟨by rw [hrf.out], below_setRow hb (by omega) _⟩
            · have hbig2 : ¬ 63 < (u : Int) := by omega
              go_wp2_with fail
              go_round
              case rel => exact ⟨m + 1, by omega, by go_num, by rw [hnxH.out], by rw [← hnxH.out]; omega⟩
              case measure => simp [intOf] <;> omega
          · have hfin : k * P ^ m = k * q := by
              by_cases hk0 : k = 0
              · rw [hk0, Nat.zero_mul, Nat.zero_mul]
              · rw [hqH.out, show m = i by omega]
            have hex : ¬ (m : Int) < (i : Int) ∨ ¬ 0 < ((k * P ^ m : Nat) : Int) := by
              by_cases hk0 : k = 0
              · right; rw [hk0, Nat.zero_mul]; simp
              · left; omega
            rw [hfin] at hle hex ⊢
            obtain ⟨t, ht⟩ : ∃ t, k * q = t := ⟨_, rfl⟩
            rw [ht] at hle hex ⊢
            have htH := Lib.hid ht
            clear ht
            have c2 : wr.cell? ⟨w1.heap.size, t, none⟩ = some (.int .u8 0) := by rw [hN.cell, u8s_get _ (by omega), ← htH.out, hat.out]
            have c3 := hN.free t
            have ht64 : (t : Int) < 64 := by omega
            by_cases hmi2 : (m : Int) < (i : Int)
            all_goals
              first | (have hneg : ¬ 0 < (t : Int) := by rcases hex with h | h; exact absurd hmi2 h; exact h) | skip
              go_wp2_with fail
              go_roundw
              case rel =>
                refine ⟨k + 1, by omega, by go_num, hA.set_other _ _ (by simp; omega), hZ.set_other _ _ (by simp; omega), ?_, fun j hj => ?_, hb.setCell (by simp; omega) _⟩
                · refine (hN.set t _).cast ?_
                  rw [u8s_set]; apply u8s_ext; intro n _
                  rw [hstep.out, htH.out]
                · by_cases e1 : j = k
                  · subst e1; right; rw [htH.out]; exact hle
                  · exact hallH.out j (by omega)
              case measure => simp [intOf] <;> omega
    · obtain rfl : k = L := by omega
      have hdt := htopH.out hallH.out
      subst hdt
      have hN2 := hN.cast (u8s_ext (g := raiF xs q) fun n _ => hres.out (by first | rfl | trivial) n)
      clear hN
      go_wp2_with ((with_reducible refine wpl_guard ?_); first | (refine wpl_load_arr rfl 23 _ rfl _ rfl _ _ hN2 _ _ uPoly sPoly ?_) | (refine wpl_store_arr rfl 23 _ _ rfl _ rfl _ rfl _ _ hZ sPoly (by simp only [u8s_size]) (u8s_oneCell _ _) ?_))
      exact bodyPost_ret (res_ct (x := .bool true) rfl rfl (hZ.setRow_same (cs := u8s 64 (raiF xs q))) uPoly sPoly rfl) rfl ⟨rfl, below_setRow hb (by omega) _⟩
end Go.Proofs.Ytionaenmjndncab
