/- Walks: roots of polynomials on both sides. -/
import Derived.Test.YtionaenmjndncaaE6
import Derived.Test.YtionaenmjndncaaE2
import Derived.Test.YtionaenmjndncaaRoo
import Derived.Test.YtionaenmjndncaaE10
set_option linter.unusedVariables false
set_option linter.unusedSimpArgs false
namespace Go.Proofs.Ytionaenmjndncaa
open Go.RowKit

/-- A square case. -/
def Sqc (p : Int) (xs : List Int) : Prop := p ≠ 2 ∧ cf xs (xs.length - 1) = 1 ∧ xs.length % 2 = 1
instance (p : Int) (xs : List Int) : Decidable (Sqc p xs) := by unfold Sqc; infer_instance
theorem IsRow_map {w : World} {g n : Nat} {F : Nat → Int} (hB : Blk w g (i64s n F) 2) (hn : n ≤ maxLen) : IsRow w (.slice (some ⟨g, 0, none⟩) n n) ((List.range n).map F) :=
  IsRow_i64s hB (by simp) (fun i hi => by rw [cf_map_range, if_pos hi]) hn

theorem rangeb {p half : Int} (hp : 2 ≤ p ∧ p ≤ 7) (h0 : 0 ≤ half) (h1 : half ≤ 4) (L : Int) : 0 ≤ L % p ∧ 0 ≤ L % p * half ∧ L % p * half ≤ 24 := by
  have a := Int.emod_nonneg L (show p ≠ 0 by omega)
  have b := Int.emod_lt_of_pos L (show 0 < p by omega)
  have c := Int.mul_le_mul (show L % p ≤ 6 by omega) h1 h0 (by omega)
  exact ⟨a, Int.mul_nonneg a h0, by omega⟩
set_option maxRecDepth 20000 in
set_option maxHeartbeats 2000000 in
theorem root_any (va : Value) (xs : List Int) (p : Int) (g : Nat) (S : Nat → Int) (w : World) (hp : Pr p) (h2 : p ≠ 2) (ha : IsRow w va xs) (hm : Md p xs) (hL : xs.length = 2 * g + 1) (hg : g ≤ 31)
    (hS : cf (rts p ((p + 1) / 2) (cf xs) (2 * g) g) = S) :
    Calls Try.prog 40 #[.int .i64 p, va] w fun e w' => ∃ v, e = .returned v ∧ IsRow w' v (rootL g S) ∧ Below w.heap.size w w' := by
  have hp2 := hp.pos
  obtain ⟨e1, e2, e3, e4⟩ := half_eq hp h2
  have hdg := fun w h => degree_any va xs w h
  obtain ⟨t, ht⟩ : ∃ t : Nat, t = 2 * g := ⟨_, rfl⟩
  rw [hL, show ((2 * g + 1 : Nat) : Int) - 1 = (t : Int) by omega] at hdg
  have hiv := fun w => inverse_any p 2 w hp (by omega) (by omega)
  have hrdH := Lib.hid (fun n w (h1 : -1000000000000000 ≤ n) (h2 : n ≤ 1000000000000000) => reduce_any p n w hp h1 h2)
  rw [e1] at hiv
  have hS0 : S 0 = 1 := by rw [← hS]; exact rts_zero _ _ _
  have hSb : ∀ i, 0 ≤ S i ∧ S i ≤ 6 := fun i => by rw [← hS]; have := rts_md (half := (p + 1) / 2) hp2.1 (cf xs) (2 * g) g i; omega
  have hDb : ∀ i, 0 ≤ cf xs i ∧ cf xs i ≤ 6 := fun i => cf_lt7 hp hm i
  have hrec : ∀ k, k < g → S (k + 1) = rtv p ((p + 1) / 2) (cf xs) (2 * g) (k + 1) S k % p * ((p + 1) / 2) % p := fun k hk => by rw [← hS]; exact rts_rec _ _ _ _ hk
  have hrb := fun k n => rtv_bound (p := p) (half := (p + 1) / 2) hDb hSb (2 * g) k n
  have hr0 := fun k => rtv_zero p ((p + 1) / 2) (cf xs) (2 * g) k S
  have hrs := fun k n => rtv_succ p ((p + 1) / 2) (cf xs) (2 * g) k n S
  generalize (p + 1) / 2 = half at *
  have hmod : (2 : Int) % p = 2 := e4
  have hpz : (p == 0) = false := by rw [beq_eq_false_iff_ne]; omega
  obtain ⟨oa, ca, rfl, hlea, hcap, hca⟩ := ha
  have haH := Lib.hid (show IsRow w (.slice oa xs.length ca) xs from ⟨oa, ca, rfl, hlea, hcap, hca⟩)
  rw [hL] at hca hlea hdg haH ⊢
  obtain ⟨b1, off1, rfl, hc1⟩ := hca (by omega)
  have hc1H := Lib.hid hc1
  have hlt1 := block_lt_of_cell (hc1 0 (by omega))
  have hdgH := Lib.hid hdg
  have hivH := Lib.hid hiv
  have hSbH := Lib.hid hSb
  have hrecH := Lib.hid hrec
  have hrbH := Lib.hid hrb
  have hr0H := Lib.hid hr0
  have hrsH := Lib.hid hrs
  have hS0H := Lib.hid hS0
  have hq1 : (t : Int) / 2 = (g : Int) := by omega
  have hq2 : (t : Int).tdiv 2 = (g : Int) := by rw [Int.tdiv_eq_ediv_of_nonneg (by omega)]; omega
  have hg1 := Lib.hid (show (g : Int) + 1 = ((g + 1 : Nat) : Int) by omega)
  have hg31 : (g : Int) ≤ 31 := by omega
  have ht62 : (t : Int) ≤ 62 := by omega
  clear hc1 hca hdg hiv hSb hrec hrb hr0 hrs hS0 hS hDb e1 hp h2 hm hL hlea hcap
  go_enter Try.func40, Try.ntmps40
  go_wp2_with fail
  refine (hdgH.out _ haH.out).mono ?_
  rintro e w1 ⟨rfl, rfl⟩
  go_wp2_with fail
  refine (hivH.out _).mono ?_
  rintro e w1 ⟨rfl, rfl⟩
  have hnew := Blk.new w (arr (g + 1) fun _ => Value.int .i64 0) 2
  have c9 : (w.alloc (.cells (arr (g + 1) fun _ => Value.int .i64 0) 2)).cell? ⟨w.heap.size, g, none⟩ = some (.int .i64 0) := by rw [hnew.cell, arr_get_lt _ (by omega)]
  have c8 := hnew.free g
  go_wp2_with (at_make; refine wpl_make_one rfl 48 2 _ _ rfl (.int .i64 0) Try.underlying48 iInt rfl .i64 .i64 _ _ (g + 1) rfl rfl hg1.out hg1.out (by omega) ?_)
  clear c9 c8
  go_loopw [8] (fun jj wr => ∃ k : Nat, k ≤ g ∧ jj = .int .i64 ((k : Int) + 1) ∧ Blk wr w.heap.size (i64s (g + 1) fun n => if g ≤ n + k then S (g - n) else 0) 2 ∧ Below w.heap.size w wr) (fun jj _ => g + 2 - (intOf jj).toNat)
  case atStart =>
    refine ⟨0, by omega, rfl, (Blk.new w _ _).cast ?_, below_new _ _⟩
    rw [arr_set]; apply arr_ext; intro n hn
    by_cases e : n = g
    · subst e; simp [hS0H.out]
    · rw [if_neg e]; show _ = Value.int .i64 (if g ≤ n + 0 then S (g - n) else 0); rw [if_neg (by omega)]
  case round =>
    clear hnew
    obtain ⟨k, hk, rfl, b0, hb⟩ := hrel
    by_cases hlt : k < g
    · obtain ⟨c, hc⟩ : ∃ c : Nat, c = 2 * g - (k + 1) := ⟨_, rfl⟩
      have hcI : (2 : Int) * (g : Int) - ((k : Int) + 1) = (c : Int) := by omega
      have c1 : wr.cell? ⟨b1, off1 + c, none⟩ = some (.int .i64 (cf xs c)) := by rw [hb.cell hlt1]; exact hc1H.out c (by omega)
      have hz := hr0H.out (k + 1)
      rw [show 2 * g - (k + 1) = c by omega] at hz
      have hzH := Lib.hid hz
      have hjg : (k : Int) + 1 ≤ (g : Int) := by omega
      have hcL : (c : Int) < ((2 * g + 1 : Nat) : Int) := by omega
      clear hz hc
      go_wp2_with fail
      go_loopw [9, 10] (fun l ii wr => ∃ n : Nat, n ≤ k ∧ ii = .int .i64 ((n : Int) + 1) ∧ l = .int .i64 (rtv p half (cf xs) (2 * g) (k + 1) S n) ∧ Blk wr w.heap.size (i64s (g + 1) fun n => if g ≤ n + k then S (g - n) else 0) 2 ∧ Below w.heap.size w wr) (fun _ ii _ => k + 2 - (intOf ii).toNat)
      case atStart => exact ⟨0, by omega, rfl, by rw [hzH.out], b0, hb⟩
      case round =>
        clear b0 hb c1
        obtain ⟨n, hn, rfl, rfl, b0, hb⟩ := hrel
        have hbd := hrbH.out (k + 1) n
        have hbd1 := hbd.1
        have hbd2 := hbd.2
        by_cases hlt2 : n < k
        · obtain ⟨x, hx⟩ : ∃ x : Nat, x = g - (n + 1) := ⟨_, rfl⟩
          obtain ⟨y, hy⟩ : ∃ y : Nat, y = g - (k + 1) + (n + 1) := ⟨_, rfl⟩
          have hxI : (g : Int) - ((n : Int) + 1) = (x : Int) := by omega
          have hyI : (g : Int) - ((k : Int) + 1) + ((n : Int) + 1) = (y : Int) := by omega
          have d1 : wr.cell? ⟨w.heap.size, x, none⟩ = some (.int .i64 (S (n + 1))) := by rw [b0.cell, i64s_get _ (by omega), if_pos (by omega), show g - x = n + 1 by omega]
          have d2 : wr.cell? ⟨w.heap.size, y, none⟩ = some (.int .i64 (S (k + 1 - 1 - n))) := by rw [b0.cell, i64s_get _ (by omega), if_pos (by omega), show g - y = k + 1 - 1 - n by omega]
          have hst := hrsH.out (k + 1) n
          have hp1 := prod_bound (hSbH.out (n + 1)) (hSbH.out (k + 1 - 1 - n))
          generalize S (n + 1) = s1 at d1 hst hp1
          generalize S (k + 1 - 1 - n) = s2 at d2 hst hp1
          have hp1a := hp1.1
          have hp1b := hp1.2
          have hstH := Lib.hid hst
          have hx1 : (x : Int) < ((g + 1 : Nat) : Int) := by omega
          have hy1 : (y : Int) < ((g + 1 : Nat) : Int) := by omega
          have hlt3 : (n : Int) + 1 < (k : Int) + 1 := by omega
          generalize rtv p half (cf xs) (2 * g) (k + 1) S n = L at hbd1 hbd2 hstH ⊢
          clear hbd hp1 hst hx hy
          go_wp2_with fail
          go_quiet (fail)
          go_wp2
          go_roundw
          case rel => exact ⟨n + 1, by omega, by first | go_num | (congr 1; omega), by rw [hstH.out], b0, ⟨hb.os, hb.tape, hb.output, hb.size, hb.block⟩⟩
          case measure => simp [intOf] <;> omega
        · obtain rfl : n = k := by omega
          obtain ⟨x, hx⟩ : ∃ x : Nat, x = g - (n + 1) := ⟨_, rfl⟩
          have hxI : (g : Int) - ((n : Int) + 1) = (x : Int) := by omega
          have d1 : wr.cell? ⟨w.heap.size, x, none⟩ = some (.int .i64 0) := by rw [b0.cell, i64s_get _ (by omega), if_neg (by omega)]
          have d2 := b0.free x
          have hrc := hrecH.out n hlt
          have hmb := rangeb hp2 e2 e3 (rtv p half (cf xs) (2 * g) (n + 1) S n)
          generalize rtv p half (cf xs) (2 * g) (n + 1) S n = L at hbd1 hbd2 hrc hmb ⊢
          have hrcH := Lib.hid hrc
          have hx1 : (x : Int) < ((g + 1 : Nat) : Int) := by omega
          have hmb1 := hmb.1
          have hmb2 := hmb.2.1
          have hmb3 := hmb.2.2
          have hxH := Lib.hid hx
          clear hbd hrc hmb hx
          go_wp2_with fail
          refine (hrdH.out L _ (by omega) (by omega)).mono ?_
          rintro e w5 ⟨rfl, rfl⟩
          go_wp2_with fail
          go_roundw
          case rel =>
            refine ⟨n + 1, by omega, by first | go_num | (congr 1; omega), ?_, hb.setCell (by simp) _⟩
            refine (b0.set x _).cast ?_
            rw [i64s_set]; apply i64s_ext; intro m hm
            have hx9 := hxH.out
            by_cases e : m = x
            · rw [if_pos e, if_pos (by omega), ← hrcH.out, show g - m = n + 1 by omega]
            · rw [if_neg e]
              by_cases e2 : g ≤ m + n
              · rw [if_pos e2, if_pos (by omega)]
              · rw [if_neg e2, if_neg (by omega)]
          case measure => simp [intOf] <;> omega
    · obtain rfl : k = g := by omega
      have hrow := Lib.hid (show IsRow wr (.slice (some ⟨w.heap.size, 0, none⟩) (k + 1) (k + 1)) (rootL k S) from IsRow_i64s b0 (rootL_length _ _) (fun i hi => by rw [rootL_cf, if_pos hi, if_pos (by omega)]) (by unfold maxLen; omega))
      go_wp2_with fail
      go_ret
      exact ⟨_, rfl, hrow.out, hb⟩

set_option maxRecDepth 20000 in
set_option maxHeartbeats 2000000 in
theorem l10Root_any (xs : List Int) (p : Int) (g : Nat) (S : Nat → Int) (w : World) (hx : P64 p xs) (h2 : p ≠ 2) (hL : xs.length = 2 * g + 1)
    (hS : cf (rts p ((p + 1) / 2) (cf xs) (2 * g) g) = S) :
    Calls Try.prog 77 #[.int .i64 p, .agg (u8s 64 (cf xs)), .int .i64 ((g + 1 : Nat) : Int)] w fun e w' => ∃ v, e = .returned v ∧ IsRow w' v ((List.range (g + 1)).map S) ∧ Below w.heap.size w w' := by
  have hp := hx.pr
  have hp2 := hp.pos
  obtain ⟨e1, e2, e3, e4⟩ := half_eq hp h2
  have hg : g ≤ 31 := by have := hx.le; omega
  have hdg := fun w => l01Deg_list p xs w hx
  obtain ⟨t, ht⟩ : ∃ t : Nat, t = 2 * g := ⟨_, rfl⟩
  rw [hL, show ((2 * g + 1 : Nat) : Int) - 1 = (t : Int) by omega] at hdg
  have hS0 : S 0 = 1 := by rw [← hS]; exact rts_zero _ _ _
  have hSb : ∀ i, 0 ≤ S i ∧ S i ≤ 6 := fun i => by rw [← hS]; have := rts_md (half := (p + 1) / 2) hp2.1 (cf xs) (2 * g) g i; omega
  have hDb : ∀ i, 0 ≤ cf xs i ∧ cf xs i ≤ 6 := fun i => hx.rng i
  have hrec : ∀ k, k < g → S (k + 1) = rtv p ((p + 1) / 2) (cf xs) (2 * g) (k + 1) S k % p * ((p + 1) / 2) % p := fun k hk => by rw [← hS]; exact rts_rec _ _ _ _ hk
  have hrb := fun k n => rtv_bound (p := p) (half := (p + 1) / 2) hDb hSb (2 * g) k n
  have hr0 := fun k => rtv_zero p ((p + 1) / 2) (cf xs) (2 * g) k S
  have hrs := fun k n => rtv_succ p ((p + 1) / 2) (cf xs) (2 * g) k n S
  obtain ⟨half, hhalf⟩ : ∃ h, (p + 1) / 2 = h := ⟨_, rfl⟩
  have hhalf2 : (p + 1).tdiv 2 = half := by rw [Int.tdiv_eq_ediv_of_nonneg (by omega)]; exact hhalf
  rw [hhalf] at e2 e3 hrec hrb hr0 hrs
  have hpz : (p == 0) = false := by rw [beq_eq_false_iff_ne]; omega
  have hdgH := Lib.hid hdg
  have hSbH := Lib.hid hSb
  have hDbH := Lib.hid hDb
  have hrecH := Lib.hid hrec
  have hrbH := Lib.hid hrb
  have hr0H := Lib.hid hr0
  have hrsH := Lib.hid hrs
  have hS0H := Lib.hid hS0
  have hg31 : (g : Int) ≤ 31 := by omega
  have ht62 : (t : Int) ≤ 62 := by omega
  have hb := below_new w (.cells (u8s 64 (cf xs)) 26)
  have hA := Blk.new w (u8s 64 (cf xs)) 26
  have htH := Lib.hid ht
  clear hdg hSb hrec hrb hr0 hrs hS0 hS hDb e1 e4 hp h2 hx hL ht
  go_enter Try.func77, Try.ntmps77
  go_wp2_with ((with_reducible refine wpl_guard ?_); first | (refine wpl_load_arr rfl 26 _ rfl _ rfl _ _ (hA.alloc _) _ _ uPoly sPoly ?_))
  refine (hdgH.out _).mono ?_
  rintro e w1 ⟨rfl, hn⟩
  have hown0 := Lib.hid (owns_below (World.ownsRow_lit (base := w.heap.size + 1) (e := 2) (size := 1) (w.alloc (.cells (u8s 64 (cf xs)) 26)) #[.int .i64 1] 1 (by simp) (by unfold maxLen; omega) rfl) hn)
  replace hA := (hA.alloc (.cells #[.int .i64 1] 2)).keep hn
  replace hb := below_step (below_step hb (below_new _ (.cells #[.int .i64 1] 2))) hn
  clear hn
  go_wp2_with fail
  go_loopw [7, 10] (fun v kk wr => ∃ k : Nat, k ≤ g ∧ kk = .int .i64 ((k : Int) + 1) ∧ Hid (wr.ownsRow (w.heap.size + 1) 2 1 v (k + 1) ((List.range (k + 1)).map fun j => .int .i64 (S j))) ∧ Blk wr w.heap.size (u8s 64 (cf xs)) 26 ∧ Below w.heap.size w wr) (fun _ kk _ => g + 2 - (intOf kk).toNat)
  case atStart => exact ⟨0, by omega, rfl, Lib.hid (by have := hown0.out; simp only [size_alloc] at this; simpa [hS0H.out] using this), hA, hb⟩
  case round =>
    clear hA hb hown0
    obtain ⟨k, hk, rfl, hown, hA, hb⟩ := hrel
    by_cases hlt : k < g
    · obtain ⟨c, hc⟩ : ∃ c : Nat, c = 2 * g - (k + 1) := ⟨_, rfl⟩
      have ht9 := htH.out
      have hcI : (t : Int) - ((k : Int) + 1) = (c : Int) := by omega
      have hge : (k : Int) + 1 ≤ (t : Int) := by omega
      clear ht9
      have c1 : wr.cell? ⟨w.heap.size, c, none⟩ = some (.int .u8 (cf xs c)) := by rw [hA.cell, u8s_get _ (by omega)]
      have hd1 := (hDbH.out c).1
      have hd2 := (hDbH.out c).2
      have hz := hr0H.out (k + 1)
      rw [show 2 * g - (k + 1) = c by omega] at hz
      have hzH := Lib.hid hz
      have hjg : (k : Int) + 1 < (g : Int) + 1 := by omega
      have hc64 : (c : Int) < 64 := by omega
      clear hz hc
      go_wp2_with fail
      go_loopw [11, 12] (fun l ii wr => ∃ n : Nat, n ≤ k ∧ ii = .int .i64 ((n : Int) + 1) ∧ l = .int .i64 (rtv p half (cf xs) (2 * g) (k + 1) S n) ∧ Hid (wr.ownsRow (w.heap.size + 1) 2 1 u7 (k + 1) ((List.range (k + 1)).map fun j => .int .i64 (S j))) ∧ Blk wr w.heap.size (u8s 64 (cf xs)) 26 ∧ Below w.heap.size w wr) (fun _ ii _ => k + 2 - (intOf ii).toNat)
      case atStart => exact ⟨0, by omega, rfl, by rw [hzH.out], hown, hA, hb⟩
      case round =>
        clear hA hb c1 hown
        obtain ⟨n, hn, rfl, rfl, hown, hA, hb⟩ := hrel
        have hbd := hrbH.out (k + 1) n
        have hbd1 := hbd.1
        have hbd2 := hbd.2
        by_cases hlt2 : n < k
        · obtain ⟨g', cap, rfl, hbase⟩ := owns_form hown.out (by omega)
          obtain ⟨y, hy⟩ : ∃ y : Nat, y = k - n := ⟨_, rfl⟩
          have hyI : ((k : Int) + 1) - ((n : Int) + 1) = (y : Int) := by omega
          have d1 : wr.cell? ⟨g', n + 1, none⟩ = some (.int .i64 (S (n + 1))) := by rw [hown.out.cellAt (n + 1) (by omega), List.getElem?_map, List.getElem?_range (by omega)]; rfl
          have d2 : wr.cell? ⟨g', y, none⟩ = some (.int .i64 (S (k + 1 - 1 - n))) := by rw [hown.out.cellAt y (by omega), List.getElem?_map, List.getElem?_range (by omega), show k + 1 - 1 - n = y by omega]; rfl
          have hst := hrsH.out (k + 1) n
          have hp1 := prod_bound (hSbH.out (n + 1)) (hSbH.out (k + 1 - 1 - n))
          generalize S (n + 1) = s1 at d1 hst hp1
          generalize S (k + 1 - 1 - n) = s2 at d2 hst hp1
          have hp1a := hp1.1
          have hp1b := hp1.2
          have hstH := Lib.hid hst
          have hx1 : (n : Int) + 1 < ((k + 1 : Nat) : Int) := by omega
          have hy1 : (y : Int) < ((k + 1 : Nat) : Int) := by omega
          have hlt3 : (n : Int) + 1 < (k : Int) + 1 := by omega
          generalize rtv p half (cf xs) (2 * g) (k + 1) S n = L at hbd1 hbd2 hstH ⊢
          clear hbd hp1 hst hy
          go_wp2_with fail
          go_quiet (fail)
          go_wp2
          go_roundw
          case rel => exact ⟨n + 1, by omega, by first | go_num | (congr 1; omega), by rw [hstH.out], hown, hA, ⟨hb.os, hb.tape, hb.output, hb.size, hb.block⟩⟩
          case measure => simp [intOf] <;> omega
        · obtain rfl : n = k := by omega
          have hrc := hrecH.out n hlt
          have hmb := rangeb hp2 e2 e3 (rtv p half (cf xs) (2 * g) (n + 1) S n)
          generalize rtv p half (cf xs) (2 * g) (n + 1) S n = L at hbd1 hbd2 hrc hmb ⊢
          have ht1 := (tmod_range p L (by omega)).1
          have ht2 := (tmod_range p L (by omega)).2
          have hrd := tmod_reduce p L (by omega)
          have hmb1 := hmb.1
          have hmb2 := hmb.2.1
          have hmb3 := hmb.2.2
          have hval : L % p * half % p = S (n + 1) := hrc.symm
          have hown2 := Lib.hid (World.ownsRow.alloc hown.out (.cells #[.int .i64 (S (n + 1))] 2))
          have hszb := hb.size
          clear hbd hmb hrc
          go_wp2_with (at_builtin; refine wpl_append_one rfl _ _ 23 rfl (w.heap.size + 1) 2 (.int .i64 0) 1 8 Try.underlying23 iInt rfl (by decide) (by decide) _ (n + 1) _ rfl hown2.out wr.heap.size rfl [.int .i64 (S (n + 1))] rfl (one_new _ _ _) (by intro u hu; rw [List.mem_singleton] at hu; subst hu; rfl) (by omega) (by have := hA.lt; simp; omega) ?_; intro v' w2 hown3 hb2; have hown4 := Lib.hid hown3; clear hown3)
          have hown5 : Hid (w2.ownsRow (w.heap.size + 1) 2 1 v' (n + 1 + 1) ((List.range (n + 1 + 1)).map fun j => .int .i64 (S j))) := Lib.hid (by rw [List.range_succ, List.map_append]; exact hown4.out)
          replace hb := (hb.alloc (by have := hA.lt; omega) (.cells #[.int .i64 (S (n + 1))] 2)).trans (hb2.mono (by omega))
          replace hA := (hA.alloc (.cells #[.int .i64 (S (n + 1))] 2)).below hb2 (by omega)
          clear hb2 hown2 hown hown4
          go_wp2_with fail
          go_roundw
          case rel => exact ⟨n + 1, by omega, by first | go_num | (congr 1; omega), hown5, hA, hb⟩
          case measure => simp [intOf] <;> omega
    · obtain rfl : k = g := by omega
      have hrow := Lib.hid (IsRow_owned hown.out)
      go_wp2_with fail
      go_ret
      exact ⟨_, rfl, hrow.out, hb⟩
end Go.Proofs.Ytionaenmjndncaa
