/- Walks: products of arrays, inverses. -/
import Derived.Test.YthkkicanockhgaaS1
import Derived.Test.YthkkicanockhgaaA2
import Derived.Test.YthkkicanockhgaaA5
import Derived.Test.YthkkicanockhgaaCom
import Derived.Test.YthkkicanockhgaaInv5
namespace Go.Proofs.Ythkkicanockhgaa
open Go.RowKit

/-- A polynomial as the program's array holds it: of at most 64 coefficients. -/
structure P64 (p : Int) (xs : List Int) : Prop where
  pr : Pr p
  po : Po p xs
  le : xs.length ≤ 64
theorem P64.rng {p : Int} {xs : List Int} (h : P64 p xs) (i : Nat) : 0 ≤ cf xs i ∧ cf xs i ≤ 6 := cf_lt7 h.pr h.po.md i
theorem P64.by {p : Int} {xs : List Int} (h : P64 p xs) : By (cf xs) := fun i => by have := h.rng i; omega
theorem P64.self {p : Int} {xs : List Int} (h : P64 p xs) : mkp 64 (cf xs) = xs := mkp_of_Tr h.po.tr h.le
theorem l01Deg_list (p : Int) (xs : List Int) (w : World) (h : P64 p xs) :
    Calls Try.prog 56 #[.agg (u8s 64 (cf xs))] w fun e w' => e = .returned (.int .i64 ((xs.length : Int) - 1)) ∧ Below w.heap.size w w' := by
  have := l01Deg_any (cf xs) w fun i _ => h.by i
  rwa [h.self] at this
theorem toldF_nil : toldF [] = fun _ => 0 := by
  have h : toldF [] = cf [] := if_pos (by decide)
  rw [h]; funext i; exact cf_nil i
theorem times_long {p : Int} {xs ys : List Int} (hx : P64 p xs) (hy : P64 p ys) (h1 : 0 < xs.length) (h2 : 0 < ys.length) : (mulp p xs ys).length + 1 = xs.length + ys.length :=
  mulp_length hx.pr hx.po hy.po (fun e => by rw [e] at h1; simp at h1) (fun e => by rw [e] at h2; simp at h2)
theorem times_end0 {p : Int} {xs ys : List Int} (h : xs.length = 0 ∨ ys.length = 0) : Ending.returned (.tuple #[.agg (u8s 64 fun _ => 0), .bool true]) = .returned (.tuple #[.agg (u8s 64 (toldF (mulp p xs ys))), .bool (decide ((mulp p xs ys).length ≤ 64))]) := by
  have hm : mulp p xs ys = [] := by
    rcases h with h | h
    · rw [List.length_eq_zero_iff.1 h, mulp_nil]
    · rw [List.length_eq_zero_iff.1 h, mulp_nil_right]
  rw [hm, toldF_nil]; rfl
theorem times_end1 {p : Int} {xs ys : List Int} (hx : P64 p xs) (hy : P64 p ys) (h1 : 0 < xs.length) (h2 : 0 < ys.length) (h3 : xs.length + ys.length ≤ 65) :
    Ending.returned (.tuple #[.agg (u8s 64 fun n => pmul (cf xs) (cf ys) n % p), .bool true]) = .returned (.tuple #[.agg (u8s 64 (toldF (mulp p xs ys))), .bool (decide ((mulp p xs ys).length ≤ 64))]) := by
  have hL64 : (mulp p xs ys).length ≤ 64 := by have := times_long hx hy h1 h2; omega
  have e1 : u8s 64 (toldF (mulp p xs ys)) = u8s 64 fun n => pmul (cf xs) (cf ys) n % p := by
    unfold toldF; rw [if_pos hL64]; exact u8s_ext fun n _ => mulp_cf _ _ _
  rw [e1, decide_eq_true hL64]
theorem times_end2 {p : Int} {xs ys : List Int} (hx : P64 p xs) (hy : P64 p ys) (h1 : 0 < xs.length) (h2 : 0 < ys.length) (h3 : ¬ xs.length + ys.length ≤ 65) :
    Ending.returned (.tuple #[.agg (u8s 64 fun _ => 0), .bool false]) = .returned (.tuple #[.agg (u8s 64 (toldF (mulp p xs ys))), .bool (decide ((mulp p xs ys).length ≤ 64))]) := by
  have hL64 : ¬ (mulp p xs ys).length ≤ 64 := by have := times_long hx hy h1 h2; omega
  have e1 : toldF (mulp p xs ys) = fun _ => 0 := if_neg hL64
  rw [e1, decide_eq_false hL64]
theorem prt_mod (p : Int) (f g : PS) (k j n : Nat) : prt f g k (j + 1) n % p = if n = k + j then (prt f g k j n % p + f k * g j) % p else prt f g k j n % p := by
  rw [prt_step]; split
  · rw [Int.emod_add_emod]
  · rfl
theorem pmod_range {p : Int} (hp : Pr p) (x : Int) : 0 ≤ x % p ∧ x % p ≤ 6 := addF_range hp x

set_option maxRecDepth 20000 in
set_option maxHeartbeats 2000000 in
theorem l01Times_any (xs ys : List Int) (p : Int) (w : World) (hx : P64 p xs) (hy : P64 p ys) :
    Calls Try.prog 50 #[.int .i64 p, .agg (u8s 64 (cf xs)), .agg (u8s 64 (cf ys))] w fun e w' => e = .returned (.tuple #[.agg (u8s 64 (toldF (mulp p xs ys))), .bool (decide ((mulp p xs ys).length ≤ 64))]) ∧ Below w.heap.size w w' := by
  have hxH := Lib.hid hx
  have hyH := Lib.hid hy
  have hp1 := hx.pr.pos.1
  have hp2 := hx.pr.pos.2
  have hpz : (p == 0) = false := by rw [beq_eq_false_iff_ne]; omega
  have hlx := hx.le
  have hly := hy.le
  clear hx hy
  obtain ⟨hb0, hA, hB1, hZ⟩ := boxes3 w (u8s 64 (cf xs)) (u8s 64 (cf ys)) (u8s 64 fun _ => 0) 23 23 23
  go_enter Try.func50, Try.ntmps50
  go_wp2_with (first | (refine wpl_alloc_arr rfl 23 rfl _ zPoly ?_))
  go_upto_region 1 with (fail)
  refine law_region2 (by kernel_rfl) (by kernel_rfl) (by kernel_rfl) (by kernel_rfl)
      (fun i => ([some (.agg (u8s 64 (cf xs))), some (.int .i64 ((xs.length : Int) - 1)), some (.agg (u8s 64 (cf ys))), some (.int .i64 ((ys.length : Int) - 1)), some (.agg (u8s 64 fun _ => 0)), none, some (.int .i64 ((xs.length : Int) - 1)), some (.int .i64 ((ys.length : Int) - 1)), none] : List (Option Value)).getD i none) 1 (fun k => [5].getD k 0) (fun k => [8].getD k 0) (fun k => [4].getD k 0) (fun k => [10].getD k 0) (fun k => [17].getD k 0) (fun k => [64].getD k 0) (fun k => [(fun _ => 0)].getD k (fun _ => 0)) (fun k => [23].getD k 0) ?_ ?_ ?_ ?_ ?_ ?_
  · intro i hi
    rcases i with _|_|_|_|_|_|_|_|_|i
    · exact .inl ⟨_, rfl⟩
    · exact .inl ⟨_, rfl⟩
    · exact .inl ⟨_, rfl⟩
    · exact .inl ⟨_, rfl⟩
    · exact .inl ⟨_, rfl⟩
    · exact .inr (.inl ⟨0, by decide, rfl⟩)
    · exact .inl ⟨_, rfl⟩
    · exact .inl ⟨_, rfl⟩
    · exact .inr (.inr ⟨0, by decide, rfl⟩)
    · simp only [List.length_cons, List.length_nil] at hi; omega
  · intro k hk
    rcases k with _|k
    · exact ⟨rfl, rfl, rfl, zPoly⟩
    · omega
  · intro k hk k' hk'
    rcases k with _|k
    all_goals rcases k' with _|k'
    all_goals first | omega | exact ⟨by decide, by decide, by decide⟩
  · intro k hk
    rcases k with _|k
    · kernel_rfl
    · omega
  · intro i o c ho hc a w2 hB hrd hpar
    rcases i with _|_|_|_|_|_|_|_|_|i
    · obtain rfl := Option.some.inj ho
      obtain rfl := Option.some.inj hc
      exact wp_loadB 23 _ rfl _ (hpar 4 (.pointer (some ⟨w.heap.size, 0, none⟩)) (by kernel_rfl) (by kernel_rfl)) _ _ (hA.keep hB) _ _ uPoly sPoly
    · obtain rfl := Option.some.inj ho
      obtain rfl := Option.some.inj hc
      exact wp_callB 56 [.tmp 13] _ rfl [.agg (u8s 64 (cf xs))] (by simp only [List.map_cons, List.map_nil, (hrd 0 _ _ 13 rfl rfl rfl (by kernel_rfl) (by kernel_rfl))]) Try.call56 _ (l01Deg_list p xs w2 hxH.out)
    · obtain rfl := Option.some.inj ho
      obtain rfl := Option.some.inj hc
      exact wp_loadB 23 _ rfl _ (hpar 5 (.pointer (some ⟨w.heap.size + 1, 0, none⟩)) (by kernel_rfl) (by kernel_rfl)) _ _ (hB1.keep hB) _ _ uPoly sPoly
    · obtain rfl := Option.some.inj ho
      obtain rfl := Option.some.inj hc
      exact wp_callB 56 [.tmp 15] _ rfl [.agg (u8s 64 (cf ys))] (by simp only [List.map_cons, List.map_nil, (hrd 2 _ _ 15 rfl rfl rfl (by kernel_rfl) (by kernel_rfl))]) Try.call56 _ (l01Deg_list p ys w2 hyH.out)
    · obtain rfl := Option.some.inj ho
      obtain rfl := Option.some.inj hc
      exact wp_build_zeroB 23 64 5 rfl uPoly sByte zPoly
    · cases hc
    · obtain rfl := Option.some.inj ho
      obtain rfl := Option.some.inj hc
      exact wp_assign _ (.int .i64 ((xs.length : Int) - 1)) rfl (hrd 1 _ _ 14 rfl rfl rfl (by kernel_rfl) (by kernel_rfl))
    · obtain rfl := Option.some.inj ho
      obtain rfl := Option.some.inj hc
      exact wp_assign _ (.int .i64 ((ys.length : Int) - 1)) rfl (hrd 3 _ _ 16 rfl rfl rfl (by kernel_rfl) (by kernel_rfl))
    · cases hc
    · cases hc
  intro vals xT hB hc hr
  have e0 : vals 0 = .agg (u8s 64 (cf xs)) := hc 0 _ (by simp) rfl
  have e1 : vals 1 = .int .i64 ((xs.length : Int) - 1) := hc 1 _ (by simp) rfl
  have e2 : vals 2 = .agg (u8s 64 (cf ys)) := hc 2 _ (by simp) rfl
  have e3 : vals 3 = .int .i64 ((ys.length : Int) - 1) := hc 3 _ (by simp) rfl
  have e4 : vals 4 = .agg (u8s 64 fun _ => 0) := hc 4 _ (by simp) rfl
  have e6 : vals 6 = .int .i64 ((xs.length : Int) - 1) := hc 6 _ (by simp) rfl
  have e7 : vals 7 = .int .i64 ((ys.length : Int) - 1) := hc 7 _ (by simp) rfl
  obtain ⟨gT0, p0, hgT0, hT0⟩ : ∃ g, vals 5 = .pointer (some ⟨g, 0, none⟩) ∧ _ ≤ g ∧ Blk xT g (u8s 64 (fun _ => 0)) 23 := hr 0 (by decide)
  simp only [List.length_cons, List.length_nil, Nat.zero_add, Nat.reduceAdd, List.replicate, putAll, if_true, Act.put, List.setIfInBounds_toArray, List.set_cons_zero, List.set_cons_succ, e0, e1, e2, e3, e4, e6, e7, p0]
  replace hA := hA.keep hB
  replace hB1 := hB1.keep hB
  replace hZ := hZ.keep hB
  replace hb0 := below_step hb0 hB
  clear hc hr e0 e1 e2 e3 e4 e6 e7 p0
  clear hB
  have hgT := Lib.hid hgT0
  have hsz := hA.lt
  have hsz1 := hB1.lt
  have hsz2 := hZ.lt
  have hne0 : gT0 ≠ w.heap.size := by have := hgT.out; simp at this; omega
  have hne1 : gT0 ≠ w.heap.size + 1 := by have := hgT.out; simp at this; omega
  have hne2 : gT0 ≠ w.heap.size + 1 + 1 := by have := hgT.out; simp at this; omega
  have hge : w.heap.size ≤ gT0 := by have := hgT.out; simp at this; omega
  clear hgT0 hgT hsz hsz1 hsz2
  by_cases h1 : xs.length = 0
  · have hend := Lib.hid (show xs.length = 0 ∨ ys.length = 0 from .inl h1)
    have h1i : (xs.length : Int) - 1 < 0 := by omega
    clear h1
    go_wp2_with (first | (refine wpl_load_arr rfl 23 _ rfl _ rfl _ _ hT0 _ _ uPoly sPoly ?_) | (refine wpl_store_arr rfl 23 _ _ rfl _ rfl _ rfl _ _ hZ sPoly rfl (u8s_oneCell _ _) ?_))
    exact bodyPost_ret (res_ct (x := .bool true) rfl rfl (hZ.setRow_same (cs := u8s 64 fun _ => 0)) uPoly sPoly rfl) rfl ⟨times_end0 hend.out, below_setRow hb0 (by omega) _⟩
  by_cases h2 : ys.length = 0
  · have hend := Lib.hid (show xs.length = 0 ∨ ys.length = 0 from .inr h2)
    have h1i : ¬ (xs.length : Int) - 1 < 0 := by omega
    have h2i : (ys.length : Int) - 1 < 0 := by omega
    clear h2
    go_wp2_with (first | (refine wpl_load_arr rfl 23 _ rfl _ rfl _ _ hT0 _ _ uPoly sPoly ?_) | (refine wpl_store_arr rfl 23 _ _ rfl _ rfl _ rfl _ _ hZ sPoly rfl (u8s_oneCell _ _) ?_))
    exact bodyPost_ret (res_ct (x := .bool true) rfl rfl (hZ.setRow_same (cs := u8s 64 fun _ => 0)) uPoly sPoly rfl) rfl ⟨times_end0 hend.out, below_setRow hb0 (by omega) _⟩
  by_cases h3 : xs.length + ys.length ≤ 65
  · have hend := Lib.hid (times_end1 hxH.out hyH.out (by omega) (by omega) h3)
    have hF1 := Lib.hid (cf_Fin0 xs)
    have hF2 := Lib.hid (cf_Fin0 ys)
    have hxR := Lib.hid hxH.out.rng
    have hyR := Lib.hid hyH.out.rng
    have hprH := Lib.hid hxH.out.pr
    clear hxH hyH
    generalize hLx : xs.length = LX at *
    generalize hLy : ys.length = LY at *
    clear hLx hLy
    go_wp2_with fail
    go_loopw [11] (fun i wr => ∃ k : Nat, k ≤ LX ∧ i = .int .i64 k ∧ Blk wr w.heap.size (u8s 64 (cf xs)) 23 ∧ Blk wr (w.heap.size + 1) (u8s 64 (cf ys)) 23 ∧ Blk wr (w.heap.size + 1 + 1) (u8s 64 fun _ => 0) 23 ∧ Blk wr gT0 (u8s 64 fun n => prt (cf xs) (cf ys) k 0 n % p) 23 ∧ Below w.heap.size w wr) (fun i _ => LX - (intOf i).toNat)
    case atStart => exact ⟨0, by omega, rfl, hA, hB1, hZ, hT0.cast (u8s_ext fun n _ => by rw [prt_start]; simp), hb0⟩
    case round =>
      clear hA hB1 hZ hT0 hb0
      obtain ⟨k, hk, rfl, b0, b1, b2, b3, hb⟩ := hrel
      by_cases hlt : k < LX
      · go_wp2_with fail
        simp only [show decide ((k : Int) ≤ (LX : Int) - 1) = true from decide_eq_true (by omega)]
        go_loopw [12] (fun i wr => ∃ j : Nat, j ≤ LY ∧ (cf xs k = 0 → j = 0) ∧ i = .int .i64 j ∧ Blk wr w.heap.size (u8s 64 (cf xs)) 23 ∧ Blk wr (w.heap.size + 1) (u8s 64 (cf ys)) 23 ∧ Blk wr (w.heap.size + 1 + 1) (u8s 64 fun _ => 0) 23 ∧ Blk wr gT0 (u8s 64 fun n => prt (cf xs) (cf ys) k j n % p) 23 ∧ Below w.heap.size w wr) (fun i _ => LY - (intOf i).toNat)
        case atStart => exact ⟨0, by omega, fun _ => rfl, rfl, b0, b1, b2, b3, hb⟩
        case round =>
          clear b0 b1 b2 b3 hb
          obtain ⟨j, hj, hjz, rfl, b0, b1, b2, b3, hb⟩ := hrel
          have hjzH := Lib.hid hjz
          clear hjz
          have hx := hxR.out k
          have hx0 := hx.1
          have hx1 := hx.2
          have c0 : wr.cell? ⟨w.heap.size, k, none⟩ = some (.int .u8 (cf xs k)) := by rw [b0.cell, u8s_get _ (by omega)]
          have hk64 : (k : Int) < 64 := by omega
          clear hx
          by_cases hlt2 : j < LY
          · by_cases hz : cf xs k = 0
            · have hj0 := hjzH.out hz
              have hzb : (cf xs k == 0) = true := by rw [hz]; rfl
              have b4 : Blk wr gT0 (u8s 64 fun n => prt (cf xs) (cf ys) (k + 1) 0 n % p) 23 := b3.cast (u8s_ext fun n _ => by rw [hj0, prt_skip hz])
              clear hz hj0 b3
              go_wp2_with fail
              go_roundw
              case rel => exact ⟨k + 1, by omega, by go_num, b0, b1, b2, b4, hb⟩
              case measure => simp [intOf] <;> omega
            · have hzb : (cf xs k == 0) = false := by rw [beq_eq_false_iff_ne]; exact hz
              have hzH := Lib.hid hz
              have c1 : wr.cell? ⟨w.heap.size + 1, j, none⟩ = some (.int .u8 (cf ys j)) := by rw [b1.cell, u8s_get _ (by omega)]
              have c2 : wr.cell? ⟨gT0, k + j, none⟩ = some (.int .u8 (prt (cf xs) (cf ys) k j (k + j) % p)) := by rw [b3.cell, u8s_get _ (by omega)]
              have c3 := b3.free (k + j)
              have hy := hyR.out j
              have hy0 := hy.1
              have hy1 := hy.2
              have ht := term_bound hx0 hx1 hy0 hy1
              have ht0 := ht.1
              have ht1 := ht.2
              have hq := pmod_range hprH.out (prt (cf xs) (cf ys) k j (k + j))
              have hq0 := hq.1
              have hq1 := hq.2
              have hkj : (k : Int) + (j : Int) < 64 := by omega
              have hj64 : (j : Int) < 64 := by omega
              clear hy ht hq hz
              go_wp2_with fail
              go_region
              go_wp2
              go_roundw
              case rel =>
                refine ⟨j + 1, by omega, fun h => absurd h hzH.out, by go_num, (b0.set_other _ _ (by simp; omega)).drew, (b1.set_other _ _ (by simp; omega)).drew, (b2.set_other _ _ (by simp; omega)).drew, ?_, (hb.setCell (by simp; omega) _).drew⟩
                refine ((b3.set (k + j) _).cast ?_).drew
                rw [u8s_set]; apply u8s_ext; intro n _
                rw [prt_mod]
                by_cases e1 : n = k + j
                · subst e1
                  have hq := pmod_range hprH.out (prt (cf xs) (cf ys) k j (k + j) + cf xs k * cf ys j)
                  rw [if_pos rfl, if_pos rfl]
                  simp [Int.emod_eq_of_lt hq.1 (show (prt (cf xs) (cf ys) k j (k + j) + cf xs k * cf ys j) % p < 256 by omega)]
                · rw [if_neg e1, if_neg e1]
              case measure => simp [intOf] <;> omega
          · obtain rfl : j = LY := by omega
            have b4 : Blk wr gT0 (u8s 64 fun n => prt (cf xs) (cf ys) (k + 1) 0 n % p) 23 := b3.cast (u8s_ext fun n _ => by rw [prt_row hF2.out])
            clear b3
            go_wp2_with fail
            go_roundw
            case rel => exact ⟨k + 1, by omega, by go_num, b0, b1, b2, b4, hb⟩
            case measure => simp [intOf] <;> omega
      · obtain rfl : k = LX := by omega
        have b4 : Blk wr gT0 (u8s 64 fun n => pmul (cf xs) (cf ys) n % p) 23 := b3.cast (u8s_ext fun n _ => by rw [prt_all hF1.out])
        clear b3
        go_wp2_with (first | (refine wpl_load_arr rfl 23 _ rfl _ rfl _ _ b4 _ _ uPoly sPoly ?_) | (refine wpl_store_arr rfl 23 _ _ rfl _ rfl _ rfl _ _ b2 sPoly rfl (u8s_oneCell _ _) ?_))
        exact bodyPost_ret (res_ct (x := .bool true) rfl rfl (b2.setRow_same (cs := u8s 64 fun n => pmul (cf xs) (cf ys) n % p)) uPoly sPoly rfl) rfl ⟨hend.out, below_setRow hb (by omega) _⟩
  · have hend := Lib.hid h3
    have hlx0 := Lib.hid (show 0 < xs.length by omega)
    have hly0 := Lib.hid (show 0 < ys.length by omega)
    have h1i : ¬ (xs.length : Int) - 1 < 0 := by omega
    have h2i : ¬ (ys.length : Int) - 1 < 0 := by omega
    have h3i : 63 < (xs.length : Int) - 1 + ((ys.length : Int) - 1) := by omega
    clear h1 h2 h3
    go_wp2_with (first | (refine wpl_load_arr rfl 23 _ rfl _ rfl _ _ hT0 _ _ uPoly sPoly ?_) | (refine wpl_store_arr rfl 23 _ _ rfl _ rfl _ rfl _ _ hZ sPoly rfl (u8s_oneCell _ _) ?_))
    exact bodyPost_ret (res_ct (x := .bool false) rfl rfl (hZ.setRow_same (cs := u8s 64 fun _ => 0)) uPoly sPoly rfl) rfl ⟨times_end2 hxH.out hyH.out hlx0.out hly0.out hend.out, below_setRow hb0 (by omega) _⟩

set_option maxHeartbeats 400000 in
theorem l01Inverse_any (p x : Int) (w : World) (hp : Pr p) (h0 : 0 < x) (h1 : x < p) :
    Calls Try.prog 92 #[.int .i64 p, .int .u8 x] w fun e w' => e = .returned (.int .u8 (invp p x)) ∧ w = w' := by
  have hp1 := hp.pos.1
  have hp2 := hp.pos.2
  have hpz : (p == 0) = false := by rw [beq_eq_false_iff_ne]; omega
  have hinv := invp_spec hp h0 h1
  have honly := Lib.hid (fun k : Nat => @invp_only p x k hp h0 h1)
  have hi0 := hinv.1
  have hi1 := hinv.2.1
  clear hp hinv
  generalize hiv : invp p x = y at *
  clear hiv
  go_enter Try.func92, Try.ntmps92
  go_wp2_with fail
  go_loop [5] (fun i => ∃ k : Nat, 1 ≤ k ∧ (k : Int) ≤ y ∧ i = .int .i64 k) (fun i => (y - intOf i).toNat)
  case atStart => exact ⟨1, by omega, by omega, rfl⟩
  case round =>
    obtain ⟨k, hk1, hk2, rfl⟩ := hrel
    have hkp : (k : Int) < p := by omega
    have hm0 : 0 ≤ (k : Int) * x := Int.mul_nonneg (by omega) (by omega)
    have hm1 : (k : Int) * x ≤ 49 := by
      have h2 := Int.mul_le_mul_of_nonneg_right (show (k : Int) ≤ 7 by omega) (show 0 ≤ x by omega)
      omega
    have ho := honly.out k (by omega) hkp
    by_cases he : (k : Int) = y
    · have h3 := ho.2 he
      have h3b : ((k : Int) * x % p == 1) = true := by rw [h3]; rfl
      have hyH := Lib.hid he
      clear ho h3 he
      go_wp2_with fail
      go_ret
      refine ⟨ret_int ?_, rfl⟩
      rw [← hyH.out]
    · have h3 : ¬ (k : Int) * x % p = 1 := fun h => he (ho.1 h)
      have h3b : ((k : Int) * x % p == 1) = false := by rw [beq_eq_false_iff_ne]; exact h3
      clear ho h3
      go_wp2_with fail
      go_round
      case rel => exact ⟨k + 1, by omega, by omega, by go_num⟩
      case measure => simp [intOf] <;> omega
end Go.Proofs.Ythkkicanockhgaa
