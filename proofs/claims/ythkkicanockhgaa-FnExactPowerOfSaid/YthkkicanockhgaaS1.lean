/- Walks: sums of arrays. -/
import Derived.Test.YthkkicanockhgaaW9
import Derived.BigRegion
namespace Go.Proofs.Ythkkicanockhgaa
open Go.RowKit

/-- A sum with a multiple. -/
def sumF (p t : Int) (f g : Nat → Int) : Nat → Int := fun i => (f i + t * g i) % p
/-- A byte less than p stays itself. -/
theorem addF_range {p : Int} (hp : Pr p) (x : Int) : 0 ≤ x % p ∧ x % p ≤ 6 := by
  have := hp.pos
  have h1 := Int.emod_nonneg x (show p ≠ 0 by omega)
  have h2 := Int.emod_lt_of_pos x (show 0 < p by omega)
  omega

set_option maxHeartbeats 2000000 in
theorem l01Add_any (f g : Nat → Int) (p k : Int) (w : World) (hp : Pr p) (hf : By f) (hg : By g) (hk0 : -1000 ≤ k) (hk1 : k ≤ 1000) :
    Calls Try.prog 45 #[.int .i64 p, .agg (u8s 64 f), .agg (u8s 64 g), .int .i64 k] w fun e w' => e = .returned (.agg (u8s 64 fun i => (f i + k * g i) % p)) ∧ Below w.heap.size w w' := by
  have hfH := Lib.hid hf
  have hgH := Lib.hid hg
  have hpH := Lib.hid hp
  have hp1 := hp.pos.1
  have hp2 := hp.pos.2
  have hpz : (p == 0) = false := by rw [beq_eq_false_iff_ne]; omega
  obtain ⟨hb0, hB1, hB2, hB3⟩ := boxes3 w (u8s 64 f) (u8s 64 g) (u8s 64 fun _ => 0) 23 23 23
  clear hf hg hp
  go_enter Try.func45, Try.ntmps45
  go_wp2_with (first | (refine wpl_alloc_arr rfl 23 rfl _ zPoly ?_))
  go_loopw [9] (fun i wr => ∃ n : Nat, n ≤ 64 ∧ i = .int .i64 n ∧ Blk wr w.heap.size (u8s 64 fun j => if j < n then (f j + k * g j) % p else f j) 23 ∧ Blk wr (w.heap.size + 1) (u8s 64 g) 23 ∧ Blk wr (w.heap.size + 1 + 1) (u8s 64 fun _ => 0) 23 ∧ Below w.heap.size w wr) (fun i _ => 64 - (intOf i).toNat)
  case atStart => exact ⟨0, by omega, rfl, hB1.cast (u8s_ext fun j _ => by simp), hB2, hB3, hb0⟩
  case round =>
    clear hB1 hB2 hB3 hb0
    obtain ⟨n, hn, rfl, b0, b1, b2, hb⟩ := hrel
    by_cases hlt : n < 64
    · have c0 : wr.cell? ⟨w.heap.size, n, none⟩ = some (.int .u8 (f n)) := by rw [b0.cell, u8s_get _ hlt]; simp
      have c1 : wr.cell? ⟨w.heap.size + 1, n, none⟩ = some (.int .u8 (g n)) := by rw [b1.cell, u8s_get _ hlt]
      have c2 := b0.free n
      have hz := hfH.out n
      have hz0 := hz.1
      have hz1 := hz.2
      have hy := hgH.out n
      have hy0 := hy.1
      have hy1 := hy.2
      have hm0 : -255000 ≤ k * g n := by have := Int.mul_le_mul_of_nonneg_right hk0 hy0; omega
      have hm1 : k * g n ≤ 255000 := by have := Int.mul_le_mul_of_nonneg_right hk1 hy0; omega
      have ht := tmod_range p (f n + k * g n) (by omega)
      have ht0 := ht.1
      have ht1 := ht.2
      have hrr := Lib.hid (tmod_reduce p (f n + k * g n) (by omega))
      have hru := addF_range hpH.out ((f n + k * g n).tmod p + p)
      have hr0 := hru.1
      have hr1 := hru.2
      have hi0 : (0 : Int) ≤ (n : Int) := by omega
      have hi3 : (n : Int) < 64 := by omega
      clear hz hy ht hru
      go_wp2_with fail
      go_region
      go_wp2
      go_roundw
      case rel =>
        refine ⟨n + 1, by omega, by go_num, ?_, (b1.set_other _ _ (by simp)).drew, (b2.set_other _ _ (by simp; omega)).drew, (hb.setCell (by simp) _).drew⟩
        refine ((b0.set n _).cast ?_).drew
        rw [u8s_set]; apply u8s_ext; intro j _
        by_cases e1 : j = n
        · subst e1
          have e : (f j + k * g j).tmod p % p = (f j + k * g j) % p := by simpa using hrr.out
          have hq := addF_range hpH.out (f j + k * g j)
          simp [e, Int.emod_eq_of_lt hq.1 (show (f j + k * g j) % p < 256 by omega)]
        · by_cases e2 : j < n
          · simp [e1, e2, show j < n + 1 by omega]
          · simp [e1, e2, show ¬ j < n + 1 by omega]
      case measure => simp [intOf] <;> omega
    · obtain rfl : n = 64 := by omega
      have b3 := b0.cast (u8s_ext (g := fun j => (f j + k * g j) % p) fun j hj => by rw [if_pos hj])
      clear b0
      go_wp2_with (first | (refine wpl_load_arr rfl 23 _ rfl _ rfl _ _ b3 _ _ uPoly sPoly ?_) | (refine wpl_store_arr rfl 23 _ _ rfl _ rfl _ rfl _ _ b2 sPoly rfl (u8s_oneCell _ _) ?_))
      exact bodyPost_ret (res_c rfl rfl (b2.setRow_same (cs := u8s 64 fun j => (f j + k * g j) % p)) uPoly sPoly) rfl ⟨rfl, below_setRow hb (by omega) _⟩
theorem l01Add_sum (f g : Nat → Int) (p k : Int) (w : World) (hp : Pr p) (hf : By f) (hg : By g) (hk0 : -1000 ≤ k) (hk1 : k ≤ 1000) :
    Calls Try.prog 45 #[.int .i64 p, .agg (u8s 64 f), .agg (u8s 64 g), .int .i64 k] w fun e w' => e = .returned (.agg (u8s 64 (sumF p k f g))) ∧ Below w.heap.size w w' :=
  l01Add_any f g p k w hp hf hg hk0 hk1
end Go.Proofs.Ythkkicanockhgaa
