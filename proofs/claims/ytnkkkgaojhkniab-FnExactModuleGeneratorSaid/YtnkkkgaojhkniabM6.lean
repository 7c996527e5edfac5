/- Walks: sums of vectors, what a matrix and a polynomial lead a vector to. -/
import Derived.Test.YtnkkkgaojhkniabM4
import Derived.Test.YtnkkkgaojhkniabPuC
import Derived.Test.YtnkkkgaojhkniabSpc
import Derived.Test.YtnkkkgaojhkniabSpd
import Derived.BigRegion
set_option linter.unusedVariables false
set_option linter.unusedSimpArgs false
namespace Go.Proofs.Ytnkkkgaojhkniab
open Go.RowKit
set_option maxHeartbeats 2000000 in
theorem l05Add_any (f g : Nat → Int) (p k : Int) (w : World) (hp : Pr p) (hf : By f) (hg : By g) (hk0 : -1000 ≤ k) (hk1 : k ≤ 1000) :
    Calls Try.prog 77 #[.int .i64 p, .agg (u8s 6 f), .agg (u8s 6 g), .int .i64 k] w fun e w' => e = .returned (.agg (u8s 6 fun i => (f i + k * g i) % p)) ∧ Below w.heap.size w w' := by
  have hfH := Lib.hid hf
  have hgH := Lib.hid hg
  have hpH := Lib.hid hp
  have hp1 := hp.pos.1
  have hp2 := hp.pos.2
  have hpz : (p == 0) = false := by rw [beq_eq_false_iff_ne]; omega
  obtain ⟨hb0, hB1, hB2, hB3⟩ := boxes3 w (u8s 6 f) (u8s 6 g) (u8s 6 fun _ => 0) 28 28 28
  clear hf hg hp
  go_enter Try.func77, Try.ntmps77
  go_wp2_with (first | (refine wpl_alloc_arr rfl 28 rfl _ zRow ?_))
  go_loopw [9] (fun i wr => ∃ n : Nat, n ≤ 6 ∧ i = .int .i64 n ∧ Blk wr w.heap.size (u8s 6 fun j => if j < n then (f j + k * g j) % p else f j) 28 ∧ Blk wr (w.heap.size + 1) (u8s 6 g) 28 ∧ Blk wr (w.heap.size + 1 + 1) (u8s 6 fun _ => 0) 28 ∧ Below w.heap.size w wr) (fun i _ => 6 - (intOf i).toNat)
  case atStart => exact ⟨0, by omega, rfl, hB1.cast (u8s_ext fun j _ => by simp), hB2, hB3, hb0⟩
  case round =>
    clear hB1 hB2 hB3 hb0
    obtain ⟨n, hn, rfl, b0, b1, b2, hb⟩ := hrel
    by_cases hlt : n < 6
    · have c0 : wr.cell? ⟨w.heap.size, n, none⟩ = some (.int .u8 (f n)) := by rw [b0.cell, u8s_get _ hlt]; simp
      have c1 : wr.cell? ⟨w.heap.size + 1, n, none⟩ = some (.int .u8 (g n)) := by rw [b1.cell, u8s_get _ hlt]
      have c2 := b0.free n
      have hz := hfH.out n
      have hz0 := hz.1
      have hz1 := hz.2
      have hy := hgH.out n
      have hy0 := hy.1
      have hy1 := hy.2
      have hm0 : -255000 ≤ k * g n := by have := Int.mul_le_mul_of_nonneg_right hk0 hy0; omega
      have hm1 : k * g n ≤ 255000 := by have := Int.mul_le_mul_of_nonneg_right hk1 hy0; omega
      have ht := tmod_range p (f n + k * g n) (by omega)
      have ht0 := ht.1
      have ht1 := ht.2
      have hrr := Lib.hid (tmod_reduce p (f n + k * g n) (by omega))
      have hru := addF_range hpH.out ((f n + k * g n).tmod p + p)
      have hr0 := hru.1
      have hr1 := hru.2
      have hi0 : (0 : Int) ≤ (n : Int) := by omega
      have hi3 : (n : Int) < 6 := by omega
      clear hz hy ht hru
      go_wp2_with fail
      go_region
      go_wp2
      go_roundw
      case rel =>
        refine ⟨n + 1, by omega, by go_num, ?_, (b1.set_other _ _ (by simp)).drew, (b2.set_other _ _ (by simp; omega)).drew, (hb.setCell (by simp) _).drew⟩
        refine ((b0.set n _).cast ?_).drew
        rw [u8s_set]; apply u8s_ext; intro j _
        by_cases e1 : j = n
        · subst e1
          have e : (f j + k * g j).tmod p % p = (f j + k * g j) % p := by simpa using hrr.out
          have hq := addF_range hpH.out (f j + k * g j)
          simp [e, Int.emod_eq_of_lt hq.1 (show (f j + k * g j) % p < 256 by omega)]
        · by_cases e2 : j < n
          · simp [e1, e2, show j < n + 1 by omega]
          · simp [e1, e2, show ¬ j < n + 1 by omega]
      case measure => simp [intOf] <;> omega
    · obtain rfl : n = 6 := by omega
      have b3 := b0.cast (u8s_ext (g := fun j => (f j + k * g j) % p) fun j hj => by rw [if_pos hj])
      clear b0
      go_wp2_with (first | (refine wpl_load_arr rfl 28 _ rfl _ rfl _ _ b3 _ _ uRow sRow ?_) | (refine wpl_store_arr rfl 28 _ _ rfl _ rfl _ rfl _ _ b2 sRow rfl (u8s_oneCell _ _) ?_))
      exact bodyPost_ret (res_c rfl rfl (b2.setRow_same (cs := u8s 6 fun j => (f j + k * g j) % p)) uRow sRow) rfl ⟨rfl, below_setRow hb (by omega) _⟩
theorem l05Add_sum (f g : Nat → Int) (p k : Int) (w : World) (hp : Pr p) (hf : By f) (hg : By g) (hk0 : -1000 ≤ k) (hk1 : k ≤ 1000) :
    Calls Try.prog 77 #[.int .i64 p, .agg (u8s 6 f), .agg (u8s 6 g), .int .i64 k] w fun e w' => e = .returned (.agg (u8s 6 (sumF p k f g))) ∧ Below w.heap.size w w' :=
  l05Add_any f g p k w hp hf hg hk0 hk1

theorem uInt6 : Try.prog.underlying 2 = some (.int .i64) := by kernel_rfl
/-- A vector's numbers. -/
structure R6 (p : Int) (xs : List Int) : Prop where
  pr : Pr p
  po : Po p xs
  le : xs.length ≤ 6
theorem R6.p64 {p : Int} {xs : List Int} (h : R6 p xs) : P64 p xs := ⟨h.pr, h.po, by have := h.le; omega⟩
theorem R6.by {p : Int} {xs : List Int} (h : R6 p xs) : By (cf xs) := h.p64.by
theorem R6.nil {p : Int} (hp : Pr p) : R6 p [] := ⟨hp, Po_nil (by have := hp.pos; omega), by simp⟩
theorem R6.addp {p : Int} {xs ys : List Int} (hx : R6 p xs) (hy : R6 p ys) (t : Int) : R6 p (addp p xs ys t) :=
  ⟨hx.pr, addp_Po (by have := hx.pr.pos; omega) _ _ _, Nat.le_trans (addp_length p xs ys t) (Nat.max_le.2 ⟨hx.le, hy.le⟩)⟩
theorem l05Add_list (xs ys : List Int) (p k : Int) (w : World) (hx : R6 p xs) (hy : R6 p ys) (hk0 : -1000 ≤ k) (hk1 : k ≤ 1000) :
    Calls Try.prog 77 #[.int .i64 p, .agg (u8s 6 (cf xs)), .agg (u8s 6 (cf ys)), .int .i64 k] w fun e w' => e = .returned (.agg (u8s 6 (cf (addp p xs ys k)))) ∧ Below w.heap.size w w' := by
  rw [← sumF_list]; exact l05Add_sum _ _ p k w hx.pr hx.by hy.by hk0 hk1
theorem ledN_skip {p : Int} (hp : 2 ≤ p) (M : Nat → List Int) (v : List Int) {k : Nat} (h : cf v k = 0) : ledN p M v (k + 1) = ledN p M v k := by
  refine (ledN_Po hp M v _).eq_of_eqp (ledN_Po hp M v k) ((ledN_eqp p M v _).trans (Eqp.trans (Eqp.of_eq ?_) (ledN_eqp p M v k).symm))
  funext j
  show sumN k (fun i => cf v i * cf (M i) j) + cf v k * cf (M k) j = _
  rw [h, Int.zero_mul, Int.add_zero]; rfl
theorem ledN_ge {p : Int} (hp : 2 ≤ p) (M : Nat → List Int) (v : List Int) : ∀ d, ledN p M v (v.length + d) = led p M v
  | 0 => rfl
  | d + 1 => by rw [← Nat.add_assoc, ledN_skip hp M v (cf_ge _ _ (by omega)), ledN_ge hp M v d]
/-- A matrix: its rows as lists. -/
structure Mx (p : Int) (n : Nat) (F : Nat → Int) (M : Nat → List Int) : Prop where
  pr : Pr p
  n6 : n ≤ 6
  po : ∀ i, Po p (M i)
  le : ∀ i, (M i).length ≤ n
  at_ : ∀ i j, i < n → j < 6 → F (i * 6 + j) = cf (M i) j
theorem Mx.r6 {p : Int} {n : Nat} {F : Nat → Int} {M : Nat → List Int} (h : Mx p n F M) (i : Nat) : R6 p (M i) := ⟨h.pr, h.po i, Nat.le_trans (h.le i) h.n6⟩
theorem Mx.ledN {p : Int} {n : Nat} {F : Nat → Int} {M : Nat → List Int} (h : Mx p n F M) (v : List Int) (k : Nat) : R6 p (ledN p M v k) :=
  ⟨h.pr, ledN_Po (by have := h.pr.pos; omega) M v k, Nat.le_trans (ledN_len h.le v k) h.n6⟩
theorem Mx.led {p : Int} {n : Nat} {F : Nat → Int} {M : Nat → List Int} (h : Mx p n F M) (v : List Int) : R6 p (led p M v) := h.ledN v _

set_option maxRecDepth 20000 in
set_option maxHeartbeats 2000000 in
theorem l05Led_any (p : Int) (n : Nat) (F : Nat → Int) (M : Nat → List Int) (xs : List Int) (w : World) (hM : Mx p n F M) (hv : R6 p xs) (hvn : xs.length ≤ n) :
    Calls Try.prog 79 #[.int .i64 p, .int .i64 n, .agg (u8s 36 F), .agg (u8s 6 (cf xs))] w fun e w' => e = .returned (.agg (u8s 6 (cf (led p M xs)))) ∧ Below w.heap.size w w' := by
  have hp2 : 2 ≤ p := hM.pr.pos.1
  have hend : ledN p M xs n = led p M xs := by
    have := ledN_ge hp2 M xs (n - xs.length)
    rwa [show xs.length + (n - xs.length) = n by omega] at this
  have hst : ∀ k, k < n → ∀ w, Calls Try.prog 77 #[.int .i64 p, .agg (u8s 6 (cf (ledN p M xs k))), .agg (u8s 6 fun j => F (k * 6 + j)), .int .i64 (cf xs k)] w fun e w' => e = .returned (.agg (u8s 6 (cf (ledN p M xs (k + 1))))) ∧ Below w.heap.size w w' := by
    intro k hk w
    rw [u8s_ext (g := cf (M k)) fun j hj => hM.at_ k j hk hj]
    have := hv.po.md k
    exact l05Add_list _ _ p _ w (hM.ledN xs k) (hM.r6 k) (by have := hM.pr.pos; omega) (by have := hM.pr.pos; omega)
  have hsk := fun k (h : cf xs k = 0) => ledN_skip hp2 M xs h
  have hvr := fun k => hv.by k
  have hn6 := hM.n6
  have hskH := Lib.hid hsk
  have hstH := Lib.hid hst
  have hendH := Lib.hid hend
  have hvrH := Lib.hid hvr
  clear hst hend hp2 hM hv hsk hvr hvn
  obtain ⟨hb, hS, hV, hZ, hN⟩ := boxes4 w (u8s 36 F) (u8s 6 (cf xs)) (u8s 6 fun _ => 0) (u8s 6 fun _ => 0) 30 28 28 28
  go_enter Try.func79, Try.ntmps79
  go_wp2_with ((with_reducible refine wpl_guard ?_); first | (refine wpl_alloc_arr rfl 28 rfl _ zRow ?_) | (refine wpl_build_zero rfl 28 6 5 rfl _ uRow sByte zRow ?_) | (refine wpl_store_new rfl 28 _ _ rfl _ rfl (by first | rfl | simp) _ rfl sRow (by simp only [u8s_size]) (u8s_oneCell _ _) ?_))
  obtain ⟨gN, hgN⟩ : ∃ g, w.heap.size + 1 + 1 + 1 = g := ⟨_, rfl⟩
  simp only [hgN] at hN ⊢
  go_loopw [10] (fun i wr => ∃ k : Nat, k ≤ n ∧ i = .int .i64 k ∧ Blk wr w.heap.size (u8s 36 F) 30 ∧ Blk wr (w.heap.size + 1) (u8s 6 (cf xs)) 28 ∧ Blk wr (w.heap.size + 1 + 1) (u8s 6 fun _ => 0) 28 ∧ Blk wr gN (u8s 6 (cf (ledN p M xs k))) 28 ∧ Below w.heap.size w wr) (fun i _ => n - (intOf i).toNat)
  case atStart => exact ⟨0, by omega, rfl, hS, hV, hZ, hN.cast (u8s_ext fun j _ => (cf_nil j).symm), hb⟩
  case round =>
    clear hS hV hZ hN hb
    obtain ⟨k, hk, rfl, hS, hV, hZ, hN, hb⟩ := hrel
    by_cases hlt : k < n
    · have hk6 : k < 6 := by omega
      have hk6I : (k : Int) < 6 := by omega
      have hltI : (k : Int) < (n : Int) := by omega
      have c0 : wr.cell? ⟨w.heap.size + 1, k, none⟩ = some (.int .u8 (cf xs k)) := by rw [hV.cell, u8s_get _ hk6]
      have hy := hvrH.out k
      have hy0 := hy.1
      have hy1 := hy.2
      clear hy
      by_cases hz : cf xs k = 0
      · have hz1 : (cf xs k == 0) = true := by rw [hz]; rfl
        have hz2 : (cf xs k != 0) = false := by rw [bne, hz1]; rfl
        have hzH := Lib.hid hz
        clear hz
        go_wp2_with fail
        go_roundw
        case rel => exact ⟨k + 1, by omega, by go_num, hS, hV, hZ, by rw [hskH.out k hzH.out]; exact hN, hb⟩
        case measure => simp [intOf] <;> omega
      · have hz1 : (cf xs k == 0) = false := by rw [beq_eq_false_iff_ne]; exact hz
        have hz2 : (cf xs k != 0) = true := by rw [bne, hz1]; rfl
        have hst := Lib.hid (hstH.out k hlt)
        clear hz
        go_upto_region 6 with (fail)
        clear c0
        go_upto_region 6 with (fail)
        refine gen_region (ws := w) (w := _) (B := w.heap.size) (by kernel_rfl) (by kernel_rfl) (by kernel_rfl) (by kernel_rfl)
            (fun i => ([fun zv _ => zv = .int .i64 p, fun zv _ => zv = .agg (u8s 6 (cf (ledN p M xs k))), fun zv _ => zv = .int .i64 k, fun zv _ => zv = .pointer (some ⟨w.heap.size, k * 6, none⟩), fun zv _ => zv = .agg (u8s 6 fun j => F (k * 6 + j)), fun zv _ => zv = .int .i64 k, fun zv _ => zv = .pointer (some ⟨w.heap.size + 1, k, none⟩), fun zv _ => zv = .int .u8 (cf xs k), fun zv _ => zv = .int .i64 (cf xs k), fun zv _ => zv = .agg (u8s 6 (cf (ledN p M xs (k + 1)))), fun _ _ => True] : List (Value → World → Prop)).getD i (fun _ _ => True))
            (fun i => ([true, false, true, false, false, true, false, false, false, false, true] : List Bool).getD i true)
            1 (fun zk => [10].getD zk 0) (fun zk => [9].getD zk 0) (fun zk => [9].getD zk 0) (fun zk => [30].getD zk 0) (fun zk => [gN].getD zk 0) (fun zk => [6].getD zk 0) (fun zk => [(cf (ledN p M xs (k + 1)))].getD zk (fun _ => 0)) (fun zk => [(cf (ledN p M xs k))].getD zk (fun _ => 0)) (fun zk => [28].getD zk 0) hb (Nat.le_refl _)
            (fun w' => Blk w' (w.heap.size) (u8s 36 F) 30 ∧ Blk w' (w.heap.size + 1) (u8s 6 (cf xs)) 28 ∧ Blk w' (w.heap.size + 1 + 1) (u8s 6 fun _ => 0) 28 ∧ True) ⟨hS.drew, hV.drew, hZ.drew, trivial⟩ (fun w1 w2 h hb => ⟨h.1.keep hb, h.2.1.keep hb, h.2.2.1.keep hb, trivial⟩) ?_ ?_ ?_ ?_ ?_ ?_ ?_
        · intro k hk w1 cs h
          rcases k with _|k
          · exact ⟨h.1.setRow_other (by simp only [List.getD_cons_zero, List.getD_cons_succ] <;> omega), h.2.1.setRow_other (by simp only [List.getD_cons_zero, List.getD_cons_succ] <;> omega), h.2.2.1.setRow_other (by simp only [List.getD_cons_zero, List.getD_cons_succ] <;> omega), trivial⟩
          · omega
        · intro i v w1 w2 h hb
          rcases i with _|_|_|_|_|_|_|_|_|_|_|i
          · exact h
          · exact h
          · exact h
          · exact h
          · exact h
          · exact h
          · exact h
          · exact h
          · exact h
          · exact h
          · exact h
          · exact h
        · intro k hk
          rcases k with _|k
          · kernel_rfl
          · omega
        · intro k hk
          rcases k with _|k
          · refine ⟨?_, (by kernel_rfl), hN, fun v w' h => h, by decide, ?_⟩
            · simp only [List.getD_cons_zero, List.getD_cons_succ] <;> omega
            · intro k' hk' hne
              rcases k' with _|k'
              all_goals first | omega | exact absurd rfl hne | (refine ⟨?_, by decide⟩; simp only [List.getD_cons_zero, List.getD_cons_succ]; omega)
          · omega
        · kernel_rfl
        · intro i o ho hz a w2 hBs hSx hBl hrd hpar
          rcases i with _|_|_|_|_|_|_|_|_|_|_|i
          · obtain rfl := Option.some.inj ho
            have e0 : a.eval (.tmp 0) = .int .i64 p := hpar 0 _ (by kernel_rfl) (by kernel_rfl)
            exact wpv_of (wp_move _ _ rfl e0) (fun _ _ => rfl)
          · obtain rfl := Option.some.inj ho
            exact wpv_of (wp_loadB 28 _ rfl _ (hpar 9 (.pointer (some ⟨gN, 0, none⟩)) (by kernel_rfl) (by kernel_rfl)) _ _ (hN.keep (hBl rfl)) _ _ uRow sRow) (fun _ _ => rfl)
          · obtain rfl := Option.some.inj ho
            have e10 : a.eval (.tmp 10) = .int .i64 k := hpar 10 _ (by kernel_rfl) (by kernel_rfl)
            exact wpv_of (wp_move _ _ rfl e10) (fun _ _ => rfl)
          · obtain rfl := Option.some.inj ho
            obtain ⟨_, e23⟩ : ∃ _w : World, a.eval (.tmp 23) = .int .i64 k := (hrd 2 _ 23 rfl rfl (by kernel_rfl) (by kernel_rfl) (by decide)).1
            exact wpv_of (wp_index_arrN 30 28 6 6 _ _ rfl uSquare sRow (by decide) (w.heap.size) k .i64 (hpar 6 _ (by kernel_rfl) (by kernel_rfl)) e23 hk6) (fun _ _ => rfl)
          · obtain rfl := Option.some.inj ho
            obtain ⟨_, e24⟩ : ∃ _w : World, a.eval (.tmp 24) = .pointer (some ⟨w.heap.size, k * 6, none⟩) := (hrd 3 _ 24 rfl rfl (by kernel_rfl) (by kernel_rfl) (by decide)).1
            exact wpv_of (wp_load_midB 28 _ rfl _ (k * 6) e24 36 6 _ F _ hSx.1 (by omega) uRow sRow) (fun _ _ => rfl)
          · obtain rfl := Option.some.inj ho
            have e10 : a.eval (.tmp 10) = .int .i64 k := hpar 10 _ (by kernel_rfl) (by kernel_rfl)
            exact wpv_of (wp_move _ _ rfl e10) (fun _ _ => rfl)
          · obtain rfl := Option.some.inj ho
            obtain ⟨_, e26⟩ : ∃ _w : World, a.eval (.tmp 26) = .int .i64 k := (hrd 5 _ 26 rfl rfl (by kernel_rfl) (by kernel_rfl) (by decide)).1
            exact wpv_of (wp_index_arr 28 5 6 _ _ rfl uRow sByte (w.heap.size + 1) k .i64 (hpar 7 _ (by kernel_rfl) (by kernel_rfl)) e26 hk6) (fun _ _ => rfl)
          · obtain rfl := Option.some.inj ho
            obtain ⟨_, e27⟩ : ∃ _w : World, a.eval (.tmp 27) = .pointer (some ⟨w.heap.size + 1, k, none⟩) := (hrd 6 _ 27 rfl rfl (by kernel_rfl) (by kernel_rfl) (by decide)).1
            exact wpv_of (wp_load_cell 5 _ rfl _ e27 .u8 uByte _ (by rw [hSx.2.1.cell, u8s_get _ (by omega)])) (fun _ _ => rfl)
          · obtain rfl := Option.some.inj ho
            obtain ⟨_, e28⟩ : ∃ _w : World, a.eval (.tmp 28) = .int .u8 (cf xs k) := (hrd 7 _ 28 rfl rfl (by kernel_rfl) (by kernel_rfl) (by decide)).1
            exact wpv_of (wp_conv_u8 5 2 _ rfl _ e28 hy0 (by omega) uByte uInt6) (fun _ _ => rfl)
          · obtain rfl := Option.some.inj ho
            obtain ⟨_, e21⟩ : ∃ _w : World, a.eval (.tmp 21) = .int .i64 p := (hrd 0 _ 21 rfl rfl (by kernel_rfl) (by kernel_rfl) (by decide)).1
            obtain ⟨_, e22⟩ : ∃ _w : World, a.eval (.tmp 22) = .agg (u8s 6 (cf (ledN p M xs k))) := (hrd 1 _ 22 rfl rfl (by kernel_rfl) (by kernel_rfl) (by decide)).1
            obtain ⟨_, e25⟩ : ∃ _w : World, a.eval (.tmp 25) = .agg (u8s 6 fun j => F (k * 6 + j)) := (hrd 4 _ 25 rfl rfl (by kernel_rfl) (by kernel_rfl) (by decide)).1
            obtain ⟨_, e29⟩ : ∃ _w : World, a.eval (.tmp 29) = .int .i64 (cf xs k) := (hrd 8 _ 29 rfl rfl (by kernel_rfl) (by kernel_rfl) (by decide)).1
            exact wpv_call 77 [.tmp 21, .tmp 22, .tmp 25, .tmp 29] _ rfl [.int .i64 p, .agg (u8s 6 (cf (ledN p M xs k))), .agg (u8s 6 fun j => F (k * 6 + j)), .int .i64 (cf xs k)] (by simp only [List.map_cons, List.map_nil, e21, e22, e25, e29]) Try.call77 ((hst.out w2).mono fun _ _ ⟨h1, h2⟩ => ⟨_, h1, rfl, h2⟩)
          · exact absurd rfl (hz 0 (by decide))
          · simp at ho
        intro vals xE hBx hSx hS0 hcs hrs
        obtain ⟨_, e0⟩ : ∃ _w : World, vals 0 = .int .i64 p := hcs 0 (by simp) (by decide)
        obtain ⟨_, e1⟩ : ∃ _w : World, vals 1 = .agg (u8s 6 (cf (ledN p M xs k))) := hcs 1 (by simp) (by decide)
        obtain ⟨_, e2⟩ : ∃ _w : World, vals 2 = .int .i64 k := hcs 2 (by simp) (by decide)
        obtain ⟨_, e3⟩ : ∃ _w : World, vals 3 = .pointer (some ⟨w.heap.size, k * 6, none⟩) := hcs 3 (by simp) (by decide)
        obtain ⟨_, e4⟩ : ∃ _w : World, vals 4 = .agg (u8s 6 fun j => F (k * 6 + j)) := hcs 4 (by simp) (by decide)
        obtain ⟨_, e5⟩ : ∃ _w : World, vals 5 = .int .i64 k := hcs 5 (by simp) (by decide)
        obtain ⟨_, e6⟩ : ∃ _w : World, vals 6 = .pointer (some ⟨w.heap.size + 1, k, none⟩) := hcs 6 (by simp) (by decide)
        obtain ⟨_, e7⟩ : ∃ _w : World, vals 7 = .int .u8 (cf xs k) := hcs 7 (by simp) (by decide)
        obtain ⟨_, e8⟩ : ∃ _w : World, vals 8 = .int .i64 (cf xs k) := hcs 8 (by simp) (by decide)
        obtain ⟨_, e9⟩ : ∃ _w : World, vals 9 = .agg (u8s 6 (cf (ledN p M xs (k + 1)))) := hcs 9 (by simp) (by decide)
        have hsE0 : Blk xE (gN) (u8s 6 (cf (ledN p M xs (k + 1)))) 28 := hrs 0 (by decide)
        simp only [List.length_cons, List.length_nil, Nat.zero_add, Nat.reduceAdd, List.replicate, putAll, if_true, Act.put, List.setIfInBounds_toArray, List.set_cons_zero, List.set_cons_succ, e0, e1, e2, e3, e4, e5, e6, e7, e8, e9]
        replace hS := hSx.1
        replace hV := hSx.2.1
        replace hZ := hSx.2.2.1
        clear hcs hrs hS0 hSx e0 e1 e2 e3 e4 e5 e6 e7 e8 e9
        go_wp2_with fail
        go_roundw
        case rel => exact ⟨k + 1, by omega, by go_num, hS, hV, hZ, hsE0, hBx⟩
        case measure => simp [intOf] <;> omega
    · obtain rfl : n = k := by omega
      rw [hendH.out] at hN
      go_wp2_with ((with_reducible refine wpl_guard ?_); first | (refine wpl_load_arr rfl 28 _ rfl _ rfl _ _ hN _ _ uRow sRow ?_) | (refine wpl_store_arr rfl 28 _ _ rfl _ rfl _ rfl _ _ hZ sRow (by simp only [u8s_size]) (u8s_oneCell _ _) ?_))
      exact bodyPost_ret (res_c rfl rfl (hZ.setRow_same (cs := u8s 6 (cf (led p M xs)))) uRow sRow) rfl ⟨rfl, below_setRow hb (by omega) _⟩

end Go.Proofs.Ytnkkkgaojhkniab
