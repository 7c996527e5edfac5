/- Walks: rests of arrays, and T times a rest. -/
import Derived.Test.YthkkicanockhgaaS5
import Derived.Test.YthkkicanockhgaaPw
set_option linter.unusedVariables false
set_option linter.unusedSimpArgs false
namespace Go.Proofs.Ythkkicanockhgaa
open Go.RowKit

set_option maxRecDepth 20000 in
set_option maxHeartbeats 1000000 in
theorem l01Mod_any (xs ms : List Int) (p : Int) (w : World) (hx : P64 p xs) (hm : P64 p ms) (hne : ms ≠ []) :
    Calls Try.prog 100 #[.int .i64 p, .agg (u8s 64 (cf xs)), .agg (u8s 64 (cf ms))] w fun e w' => e = .returned (.agg (u8s 64 (cf (rst p xs ms)))) ∧ Below w.heap.size w w' := by
  have hdv := fun w => l01Divide_any xs ms p w hx hm hne
  unfold rst
  obtain ⟨q, hq⟩ : ∃ q, (divp p xs ms).1 = q := ⟨_, rfl⟩
  obtain ⟨r, hr⟩ : ∃ r, (divp p xs ms).2 = r := ⟨_, rfl⟩
  rw [hq, hr] at hdv
  rw [hr]
  have hdvH := Lib.hid hdv
  clear hdv hq hr hx hm hne
  obtain ⟨hb, hA, hD, hE⟩ := boxes3 w (u8s 64 (cf xs)) (u8s 64 (cf ms)) (u8s 64 fun _ => 0) 23 23 23
  go_enter Try.func100, Try.ntmps100
  go_wp2_with (first | (refine wpl_alloc_arr rfl 23 rfl _ zPoly ?_) | (refine wpl_load_arr rfl 23 _ rfl _ rfl _ _ hA _ _ uPoly sPoly ?_) | (refine wpl_load_arr rfl 23 _ rfl _ rfl _ _ hD _ _ uPoly sPoly ?_))
  refine (hdvH.out _).mono ?_
  rintro e w3 ⟨rfl, hn⟩
  replace hE := hE.keep hn
  replace hb := below_step hb hn
  clear hn
  have hel := hE.lt
  clear hA hD
  go_upto_region 2 with ((with_reducible refine wpl_guard ?_); first | (refine wpl_new2 23 zPoly sPoly _ _ rfl rfl rfl rfl rfl _ _ rfl rfl rfl rfl rfl rfl _ rfl rfl _ rfl ?_; intro w4 hn hN1 hN2; replace hE := hE.keep hn; replace hb := below_step hb hn; clear hn))
  go_wp2_with ((with_reducible refine wpl_guard ?_); first | (refine wpl_load_arr rfl 23 _ rfl _ rfl _ _ hN2 _ _ uPoly sPoly ?_) | (refine wpl_store_arr rfl 23 _ _ rfl _ rfl _ rfl _ _ hE sPoly (by simp only [u8s_size]) (u8s_oneCell _ _) ?_))
  exact bodyPost_ret (res_c rfl rfl (hE.setRow_same (cs := u8s 64 (cf r))) uPoly sPoly) rfl ⟨rfl, below_setRow hb (by omega) _⟩

/-- T times a rest, ahead of the division. -/
def shF (xs : List Int) (j : Nat) : Nat → Int := fun i => if 1 ≤ i ∧ i < j then cf xs (i - 1) else 0
def upF (p q : Int) (xs ms : List Int) (n j : Nat) : Nat → Int := fun i => if i < j then (shF xs n i - q * cf ms i) % p else shF xs n i
theorem upF_all {p : Int} {xs ms : List Int} (hm : P64 p ms) (n : Nat) (hn : ms.length = n + 1) (h1 : 1 ≤ n) (hl : xs.length < ms.length) (q : Int) (hq : cf xs (n - 1) * invp p (cf ms n) % p = q) (i : Nat) : upF p q xs ms n n i = cf (mulmod p [0, 1] xs ms) i := by
  rw [← up_eq hm.pr hm.po (by omega) hl, mkp_cf, hn, Nat.add_sub_cancel, show n + 1 - 2 = n - 1 by omega, hq]
  unfold upF shF
  by_cases h : i < n
  · rw [if_pos h, if_pos h]
    by_cases e : i = 0
    · rw [if_neg (by omega), if_pos e]
    · rw [if_pos (by omega), if_neg e]
  · rw [if_neg h, if_neg h, if_neg (by omega)]

set_option maxRecDepth 20000 in
set_option maxHeartbeats 2000000 in
theorem l01Up_any (xs ms : List Int) (p : Int) (w : World) (hx : P64 p xs) (hm : P64 p ms) (hl : xs.length < ms.length) :
    Calls Try.prog 107 #[.int .i64 p, .agg (u8s 64 (cf xs)), .agg (u8s 64 (cf ms))] w fun e w' => e = .returned (.agg (u8s 64 (cf (mulmod p [0, 1] xs ms)))) ∧ Below w.heap.size w w' := by
  have hdg := Lib.hid (fun w => l01Deg_list p ms w hm)
  obtain ⟨n, hn⟩ : ∃ n, ms.length = n + 1 := ⟨ms.length - 1, by omega⟩
  have hp1 := hx.pr.pos.1
  have hp2 := hx.pr.pos.2
  have hpz : (p == 0) = false := by rw [beq_eq_false_iff_ne]; omega
  have hne : ms ≠ [] := fun e => by rw [e] at hn; simp at hn
  have hi := invp_spec hm.pr (hm.po.lead hne) (hm.po.md _).2
  have hiv := fun w => l01Inverse_any p (cf ms (ms.length - 1)) w hm.pr (hm.po.lead hne) (hm.po.md _).2
  have h1 := fun h : ms.length = 1 => up_one (a := xs) hm.pr hm.po h
  have hall := fun (h1 : 1 ≤ n) (q : Int) (hq : cf xs (n - 1) * invp p (cf ms n) % p = q) (i : Nat) => upF_all hm n hn h1 hl q hq i
  have hxR := Lib.hid hx.rng
  have hmR := Lib.hid hm.rng
  have hprH := Lib.hid hx.pr
  have hn64 : n < 64 := by have := hm.le; omega
  rw [hn, Nat.add_sub_cancel] at hi hiv
  have hi0 := hi.1
  have hi1 := hi.2.1
  have hni : (ms.length : Int) - 1 = (n : Int) := by omega
  rw [hni] at hdg
  rw [hn] at h1
  generalize invp p (cf ms n) = inv at hiv hall hi0 hi1
  obtain ⟨R, hR⟩ : ∃ R, mulmod p [0, 1] xs ms = R := ⟨_, rfl⟩
  rw [hR] at h1 hall
  rw [hR]
  have hivH := Lib.hid hiv
  have h1H := Lib.hid h1
  have hallH := Lib.hid hall
  clear hx hm hl hn hne hi hiv h1 hall hni hR
  obtain ⟨hb, hA, hD, hE⟩ := boxes3 w (u8s 64 (cf xs)) (u8s 64 (cf ms)) (u8s 64 fun _ => 0) 23 23 23
  go_enter Try.func107, Try.ntmps107
  go_wp2_with (first | (refine wpl_alloc_arr rfl 23 rfl _ zPoly ?_) | (refine wpl_load_arr rfl 23 _ rfl _ rfl _ _ hD _ _ uPoly sPoly ?_))
  refine (hdg.out _).mono ?_
  rintro e w1 ⟨rfl, hn⟩
  replace hA := hA.keep hn
  replace hD := hD.keep hn
  replace hE := hE.keep hn
  replace hb := below_step hb hn
  clear hn
  by_cases h0 : n = 0
  · have hR0 := Lib.hid (h1H.out (by omega))
    have hz : ((n : Int) == 0) = true := by rw [h0]; rfl
    clear h0 h1H hallH
    go_wp2_with (first | (refine wpl_build_zero rfl 23 64 5 rfl _ uPoly sByte zPoly ?_) | (refine wpl_store_arr rfl 23 _ _ rfl _ rfl _ rfl _ _ hE sPoly (by simp only [u8s_size]) (u8s_oneCell _ _) ?_))
    exact bodyPost_ret (res_c rfl rfl (hE.setRow_same (cs := u8s 64 fun _ => 0)) uPoly sPoly) rfl ⟨by rw [hR0.out, cf_void], below_setRow hb (by omega) _⟩
  · obtain ⟨m, rfl⟩ : ∃ m, n = m + 1 := ⟨n - 1, by omega⟩
    have hz : ((((m + 1 : Nat) : Int)) == 0) = false := by rw [beq_eq_false_iff_ne]; omega
    have hm1 : ((m + 1 : Nat) : Int) - 1 = (m : Int) := by omega
    have hm64 : (m : Int) < 64 := by omega
    have c0 : w1.cell? ⟨w.heap.size, m, none⟩ = some (.int .u8 (cf xs m)) := by rw [hA.cell, u8s_get _ (by omega)]
    have hQ0 : w1.heap.size ≠ w.heap.size := by have := hA.lt; omega
    have hQ1 : w1.heap.size ≠ w.heap.size + 1 := by have := hD.lt; omega
    have hQ2 : w1.heap.size ≠ w.heap.size + 1 + 1 := by have := hE.lt; omega
    have hge : w.heap.size ≤ w1.heap.size := by have := hA.lt; omega
    have hall2 := Lib.hid (fun (q : Int) (hq : cf xs m * inv % p = q) (i : Nat) => hallH.out (by omega) q (by rw [Nat.add_sub_cancel]; exact hq) i)
    clear hallH h1H h0
    have hx0 := (hxR.out m).1
    have hx1 := (hxR.out m).2
    go_wp2_with (first | (refine wpl_alloc_arr rfl 23 rfl _ zPoly ?_) | (refine wpl_build_zero rfl 23 64 5 rfl _ uPoly sByte zPoly ?_) | (refine wpl_store_new rfl 23 _ _ rfl _ rfl rfl _ rfl sPoly rfl (u8s_oneCell _ _) ?_))
    have hN := Blk.new w1 (u8s 64 fun _ => 0) 23
    replace hA := hA.alloc (.cells (u8s 64 fun _ => 0) 23)
    replace hD := hD.alloc (.cells (u8s 64 fun _ => 0) 23)
    replace hE := hE.alloc (.cells (u8s 64 fun _ => 0) 23)
    replace hb := below_step hb (below_new w1 (.cells (u8s 64 fun _ => 0) 23))
    clear c0
    go_loopw [10] (fun i wr => ∃ j : Nat, 1 ≤ j ∧ j ≤ m + 1 ∧ i = .int .i64 j ∧ Blk wr w.heap.size (u8s 64 (cf xs)) 23 ∧ Blk wr (w.heap.size + 1) (u8s 64 (cf ms)) 23 ∧ Blk wr (w.heap.size + 1 + 1) (u8s 64 fun _ => 0) 23 ∧ Blk wr w1.heap.size (u8s 64 (shF xs j)) 23 ∧ Below w.heap.size w wr) (fun i _ => 64 - (intOf i).toNat)
    case atStart => exact ⟨1, by omega, by omega, rfl, hA, hD, hE, hN.cast (u8s_ext fun i _ => by unfold shF; rw [if_neg (by omega)]), hb⟩
    case round =>
      clear hA hD hE hN hb
      obtain ⟨j, hj1, hj2, rfl, hA, hD, hE, hN, hb⟩ := hrel
      by_cases hlt : j < m + 1
      · obtain ⟨k, rfl⟩ : ∃ k, j = k + 1 := ⟨j - 1, by omega⟩
        have c0 : wr.cell? ⟨w.heap.size, k, none⟩ = some (.int .u8 (cf xs k)) := by rw [hA.cell, u8s_get _ (by omega)]
        have c1 : wr.cell? ⟨w1.heap.size, k + 1, none⟩ = some (.int .u8 0) := by rw [hN.cell, u8s_get _ (by omega)]; unfold shF; rw [if_neg (by omega)]
        have c2 := hN.free (k + 1)
        have hk1 : ((k + 1 : Nat) : Int) - 1 = (k : Int) := by omega
        have hk64 : ((k + 1 : Nat) : Int) < 64 := by omega
        have hk63 : (k : Int) < 64 := by omega
        go_wp2_with fail
        go_roundw
        case rel =>
          refine ⟨k + 2, by omega, by omega, by go_num, hA.set_other _ _ (by simp; omega), hD.set_other _ _ (by simp; omega), hE.set_other _ _ (by simp; omega), ?_, hb.setCell (by simp; omega) _⟩
          refine (hN.set (k + 1) _).cast ?_
          rw [u8s_set]; apply u8s_ext; intro i _
          unfold shF
          by_cases e1 : i = k + 1
          · subst e1; rw [if_pos rfl, if_pos (by omega), Nat.add_sub_cancel]
          · rw [if_neg e1]
            by_cases e2 : 1 ≤ i ∧ i < k + 1
            · rw [if_pos e2, if_pos (by omega)]
            · rw [if_neg e2, if_neg (by omega)]
        case measure => simp [intOf] <;> omega
      · obtain rfl : j = m + 1 := by omega
        have c0 : wr.cell? ⟨w.heap.size + 1, m + 1, none⟩ = some (.int .u8 (cf ms (m + 1))) := by rw [hD.cell, u8s_get _ (by omega)]
        have hk64 : ((m + 1 : Nat) : Int) < 64 := by omega
        have ht := term_bound hx0 hx1 (show 0 ≤ inv by omega) (show inv ≤ 6 by omega)
        have ht0 := ht.1
        have ht1 := ht.2
        have hqb := mulmod_bound (p := p) (x := cf xs m) (y := inv) (by omega)
        have hq0 := hqb.1
        have hq1 := hqb.2
        clear ht hqb hj1 hj2
        go_wp2_with fail
        refine (hivH.out _).mono ?_
        rintro e w2 ⟨rfl, rfl⟩
        go_wp2_with fail
        have hall3 := Lib.hid (hall2.out _ rfl)
        clear hall2 c0
        generalize cf xs m * inv % p = q at *
        go_loopw [12] (fun i wr => ∃ j : Nat, j ≤ m + 1 ∧ i = .int .i64 j ∧ Blk wr w.heap.size (u8s 64 (cf xs)) 23 ∧ Blk wr (w.heap.size + 1) (u8s 64 (cf ms)) 23 ∧ Blk wr (w.heap.size + 1 + 1) (u8s 64 fun _ => 0) 23 ∧ Blk wr w1.heap.size (u8s 64 (upF p q xs ms (m + 1) j)) 23 ∧ Below w.heap.size w wr) (fun i _ => 64 - (intOf i).toNat)
        case atStart => exact ⟨0, by omega, rfl, hA, hD, hE, hN.cast (u8s_ext fun i _ => by unfold upF; rw [if_neg (by omega)]), hb⟩
        case round =>
          clear hA hD hE hN hb
          obtain ⟨j, hj2, rfl, hA, hD, hE, hN, hb⟩ := hrel
          by_cases hlt : j < m + 1
          · have c0 : wr.cell? ⟨w.heap.size + 1, j, none⟩ = some (.int .u8 (cf ms j)) := by rw [hD.cell, u8s_get _ (by omega)]
            have c1 : wr.cell? ⟨w1.heap.size, j, none⟩ = some (.int .u8 (shF xs (m + 1) j)) := by rw [hN.cell, u8s_get _ (by omega)]; unfold upF; rw [if_neg (by omega)]
            have c2 := hN.free j
            have hs : 0 ≤ shF xs (m + 1) j ∧ shF xs (m + 1) j ≤ 6 := by
              unfold shF; split
              · exact hxR.out _
              · omega
            have hs0 := hs.1
            have hs1 := hs.2
            have hy0 := (hmR.out j).1
            have hy1 := (hmR.out j).2
            have ht := term_bound hq0 (show q ≤ 6 by omega) hy0 hy1
            have ht0 := ht.1
            have ht1 := ht.2
            have htm := tmod_range p (shF xs (m + 1) j - q * cf ms j) (by omega)
            have htm0 := htm.1
            have htm1 := htm.2
            have hrr := Lib.hid (tmod_reduce p (shF xs (m + 1) j - q * cf ms j) (by omega))
            have hru := addF_range hprH.out ((shF xs (m + 1) j - q * cf ms j).tmod p + p)
            have hru0 := hru.1
            have hru1 := hru.2
            have hj64 : (j : Int) < 64 := by omega
            clear hs ht htm hru
            go_wp2_with fail
            go_region
            go_wp2
            go_roundw
            case rel =>
              refine ⟨j + 1, by omega, by go_num, (hA.set_other _ _ (by simp; omega)).drew, (hD.set_other _ _ (by simp; omega)).drew, (hE.set_other _ _ (by simp; omega)).drew, ?_, (hb.setCell (by simp; omega) _).drew⟩
              refine ((hN.set j _).cast ?_).drew
              rw [u8s_set]; apply u8s_ext; intro i _
              unfold upF
              by_cases e1 : i = j
              · subst e1
                have e : (shF xs (m + 1) i - q * cf ms i).tmod p % p = (shF xs (m + 1) i - q * cf ms i) % p := by simpa using hrr.out
                have hq := addF_range hprH.out (shF xs (m + 1) i - q * cf ms i)
                simp [e, Int.emod_eq_of_lt hq.1 (show (shF xs (m + 1) i - q * cf ms i) % p < 256 by omega)]
              · by_cases e2 : i < j
                · simp [e1, e2, show i < j + 1 by omega]
                · simp [e1, e2, show ¬ i < j + 1 by omega]
            case measure => simp [intOf] <;> omega
          · obtain rfl : j = m + 1 := by omega
            have hN2 : Blk wr w1.heap.size (u8s 64 (cf R)) 23 := hN.cast (u8s_ext fun i _ => hall3.out i)
            clear hN
            go_wp2_with (first | (refine wpl_load_arr rfl 23 _ rfl _ rfl _ _ hN2 _ _ uPoly sPoly ?_) | (refine wpl_store_arr rfl 23 _ _ rfl _ rfl _ rfl _ _ hE sPoly (by simp only [u8s_size]) (u8s_oneCell _ _) ?_))
            exact bodyPost_ret (res_c rfl rfl (hE.setRow_same (cs := u8s 64 (cf R))) uPoly sPoly) rfl ⟨rfl, below_setRow hb (by omega) _⟩
end Go.Proofs.Ythkkicanockhgaa
