/- Walks: products of rows. -/
import Derived.Test.YthkkicanockhgaaA1
import Derived.Test.YthkkicanockhgaaAcc
namespace Go.Proofs.Ythkkicanockhgaa
open Go.RowKit

/-- A product, without what surely is 0. -/
theorem mulp_mkp (p : Int) (xs ys : List Int) : mkp (xs.length + ys.length - 1) (fun n => pmul (cf xs) (cf ys) n % p) = mulp p xs ys := by
  have hF := (cf_Fin0 xs).mul (cf_Fin0 ys)
  refine Tr_ext (mkp_Tr _ _) (mkp_Tr _ _) fun i => ?_
  rw [mulp_cf, mkp_cf]
  split
  · rfl
  · rw [hF i (by omega)]; rfl

set_option maxHeartbeats 1000000 in
theorem times_any (va vb : Value) (xs ys : List Int) (p : Int) (w : World) (hp : Pr p) (ha : IsRow w va xs) (hb : IsRow w vb ys) (hxa : Md p xs) (hxb : Md p ys)
    (la : xs.length ≤ 100000) (lb : ys.length ≤ 100000) :
    Calls Try.prog 51 #[.int .i64 p, va, vb] w fun e w' => ∃ v, e = .returned v ∧ IsRow w' v (mulp p xs ys) ∧ Below w.heap.size w w' := by
  have hp1 := hp.pos.1
  have hp2 := hp.pos.2
  have hxaH := Lib.hid (fun i => cf_lt7 hp hxa i)
  have hxbH := Lib.hid (fun i => cf_lt7 hp hxb i)
  obtain ⟨oa, ca, rfl, hlea, _, hca⟩ := ha
  obtain ⟨ob, cb, rfl, hleb, _, hcb⟩ := hb
  have hcaH := Lib.hid hca
  have hcbH := Lib.hid hcb
  have hpz : (p == 0) = false := by rw [beq_eq_false_iff_ne]; omega
  clear hxa hxb hp hca hcb
  have hres := Lib.hid (mulp_mkp p xs ys)
  by_cases h1 : xs.length = 0
  · have hn : mulp p xs ys = [] := by rw [List.length_eq_zero_iff.1 h1, mulp_nil]
    have hnH := Lib.hid hn
    have h1b : ((xs.length : Int) == 0) = true := by rw [h1]; rfl
    clear hn h1
    go_enter Try.func51, Try.ntmps51
    go_wp2_with fail
    go_ret
    exact ⟨_, rfl, by rw [hnH.out]; exact IsRow_nil w, Below.refl _ _⟩
  by_cases h2 : ys.length = 0
  · have hn : mulp p xs ys = [] := by rw [List.length_eq_zero_iff.1 h2, mulp_nil_right]
    have hnH := Lib.hid hn
    have h1b : ((xs.length : Int) == 0) = false := by rw [beq_eq_false_iff_ne]; omega
    have h2b : ((ys.length : Int) == 0) = true := by rw [h2]; rfl
    clear hn h1 h2
    go_enter Try.func51, Try.ntmps51
    go_wp2_with fail
    go_ret
    exact ⟨_, rfl, by rw [hnH.out]; exact IsRow_nil w, Below.refl _ _⟩
  have h1b : ((xs.length : Int) == 0) = false := by rw [beq_eq_false_iff_ne]; omega
  have h2b : ((ys.length : Int) == 0) = false := by rw [beq_eq_false_iff_ne]; omega
  obtain ⟨b1, off1, rfl, hc1⟩ := hcaH.out (by omega)
  obtain ⟨b2, off2, rfl, hc2⟩ := hcbH.out (by omega)
  have hc1H := Lib.hid hc1
  have hc2H := Lib.hid hc2
  have hlt1 := block_lt_of_cell (hc1 0 (by omega))
  have hltb := block_lt_of_cell (hc2 0 (by omega))
  have hF1 := Lib.hid (cf_Fin0 xs)
  have hF2 := Lib.hid (cf_Fin0 ys)
  clear hc1 hc2 hcaH hcbH
  generalize hLx : xs.length = LX at *
  generalize hLy : ys.length = LY at *
  have hLxH := Lib.hid hLx
  have hLyH := Lib.hid hLy
  clear hLx hLy
  obtain ⟨N, hN⟩ : ∃ N : Nat, LX + LY = N + 1 := ⟨LX + LY - 1, by omega⟩
  have hNI : (LX : Int) + (LY : Int) - 1 = (N : Int) := by omega
  have hNH := Lib.hid hNI
  clear hNI
  go_enter Try.func51, Try.ntmps51
  go_wp2_with (at_make; refine wpl_make_one rfl 49 2 _ _ rfl (.int .i64 0) Try.underlying49 iInt rfl .i64 .i64 _ _ N rfl rfl hNH.out hNH.out (by omega) ?_)
  go_loopw [31] (fun i wr => ∃ k : Nat, k ≤ LX ∧ i = .int .i64 k ∧ Blk wr w.heap.size (i64s N (prt (cf xs) (cf ys) k 0)) 2 ∧ Below w.heap.size w wr) (fun i _ => LX - (intOf i).toNat)
  case atStart => exact ⟨0, by omega, rfl, (Blk.new w _ _).cast (arr_ext fun j _ => by rw [prt_start]), below_new _ _⟩
  case round =>
    obtain ⟨k, hk, rfl, b0, hb⟩ := hrel
    by_cases hlt : k < LX
    · have c1 : wr.cell? ⟨b1, off1 + k, none⟩ = some (.int .i64 (cf xs k)) := by rw [hb.cell hlt1]; exact hc1H.out k hlt
      go_wp2_with fail
      go_loopw [38] (fun i wr => ∃ j : Nat, j ≤ LY ∧ i = .int .i64 j ∧ Blk wr w.heap.size (i64s N (prt (cf xs) (cf ys) k j)) 2 ∧ Below w.heap.size w wr) (fun i _ => LY - (intOf i).toNat)
      case atStart => exact ⟨0, by omega, rfl, b0, hb⟩
      case round =>
        clear b0 hb c1
        obtain ⟨j, hj, rfl, b0, hb⟩ := hrel
        by_cases hlt2 : j < LY
        · have c1 : wr.cell? ⟨b2, off2 + j, none⟩ = some (.int .i64 (cf ys j)) := by rw [hb.cell hltb]; exact hc2H.out j hlt2
          have c2 : wr.cell? ⟨w.heap.size, k + j, none⟩ = some (.int .i64 (prt (cf xs) (cf ys) k j (k + j))) := by rw [b0.cell, i64s_get _ (by omega)]
          have c3 := b0.free (k + j)
          have hx := hxaH.out k
          have hy := hxbH.out j
          have ht := term_bound hx.1 hx.2 hy.1 hy.2
          have ht0 := ht.1
          have ht1 := ht.2
          have hq := prt_bound hxaH.out hxbH.out k j (k + j)
          have hq0 := hq.1
          have hq1 : prt (cf xs) (cf ys) k j (k + j) ≤ 3600036 := by have := hq.2; omega
          clear hx hy ht hq
          go_wp2_with fail
          go_roundw
          case rel =>
            refine ⟨j + 1, by omega, by go_num, ?_, hb.setCell (by simp) _⟩
            refine (b0.set (k + j) _).cast ?_
            rw [i64s_set]; apply i64s_ext; intro n _
            rw [prt_step]
            by_cases e1 : n = k + j
            · subst e1; simp
            · simp [e1]
          case measure => simp [intOf] <;> omega
        · obtain rfl : j = LY := by omega
          have b1 : Blk wr w.heap.size (i64s N (prt (cf xs) (cf ys) (k + 1) 0)) 2 := b0.cast (i64s_ext fun n _ => by rw [prt_row hF2.out])
          go_wp2_with fail
          go_roundw
          case rel => exact ⟨k + 1, by omega, by go_num, b1, hb⟩
          case measure => simp [intOf] <;> omega
    · obtain rfl : k = LX := by omega
      have b1 : Blk wr w.heap.size (i64s N (fun n => pmul (cf xs) (cf ys) n)) 2 := b0.cast (i64s_ext fun n _ => by rw [prt_all hF1.out])
      clear b0
      go_wp2_with fail
      go_loopw [58] (fun i wr => ∃ j : Nat, j ≤ N ∧ i = .int .i64 j ∧ Blk wr w.heap.size (i64s N (fun n => if n < j then pmul (cf xs) (cf ys) n % p else pmul (cf xs) (cf ys) n)) 2 ∧ Below w.heap.size w wr) (fun i _ => N - (intOf i).toNat)
      case atStart => exact ⟨0, by omega, rfl, b1.cast (i64s_ext fun n _ => by simp), hb⟩
      case round =>
        clear b1 hb
        obtain ⟨j, hj, rfl, b0, hb⟩ := hrel
        by_cases hlt2 : j < N
        · have c2 : wr.cell? ⟨w.heap.size, j, none⟩ = some (.int .i64 (pmul (cf xs) (cf ys) j)) := by rw [b0.cell, i64s_get _ hlt2]; simp
          have c3 := b0.free j
          have hq := prt_bound hxaH.out hxbH.out k 0 j
          rw [prt_all hF1.out] at hq
          have hq0 := hq.1
          have hq1 : pmul (cf xs) (cf ys) j ≤ 3600036 := by have := hq.2; omega
          clear hq
          go_wp2_with fail
          go_roundw
          case rel =>
            refine ⟨j + 1, by omega, by go_num, ?_, hb.setCell (by simp) _⟩
            refine (b0.set j _).cast ?_
            rw [i64s_set]; apply i64s_ext; intro n _
            by_cases e1 : n = j
            · subst e1; simp
            · by_cases e2 : n < j
              · simp [e1, e2, show n < j + 1 by omega]
              · simp [e1, e2, show ¬ n < j + 1 by omega]
          case measure => simp [intOf] <;> omega
        · obtain rfl : j = N := by omega
          have hrow : IsRow wr (.slice (some ⟨w.heap.size, 0, none⟩) j j) ((List.range j).map fun n => pmul (cf xs) (cf ys) n % p) := by
            have hlen : ((List.range j).map fun n => pmul (cf xs) (cf ys) n % p).length = j := by rw [List.length_map, List.length_range]
            refine ⟨some ⟨w.heap.size, 0, none⟩, j, by rw [hlen], by omega, by unfold maxLen; omega, fun _ => ⟨_, 0, rfl, fun i hi => ?_⟩⟩
            rw [hlen] at hi
            rw [b0.cell, Nat.zero_add, i64s_get _ hi, cf_map_range, if_pos hi, if_pos hi]
          have hrowH := Lib.hid hrow
          clear hrow
          go_wp2_with fail
          refine (trimmed_any _ _ _ hrowH.out).mono ?_
          rintro e w1 ⟨v', rfl, hr, rfl⟩
          have hr2 : IsRow wr v' (mulp p xs ys) := by
            rw [← hres.out, show k + LY - 1 = j by omega]; exact hr
          go_wp2_with fail
          go_ret
          exact ⟨_, rfl, hr2, hb⟩
end Go.Proofs.Ythkkicanockhgaa
