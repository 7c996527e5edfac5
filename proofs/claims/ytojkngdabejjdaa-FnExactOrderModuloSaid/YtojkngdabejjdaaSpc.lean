/- Several texts in one: S1, S2, S3, S4. -/
import Derived.Test.YtojkngdabejjdaaRws
import Derived.BigRegion
import Derived.Test.YtojkngdabejjdaaPure
import Derived.Test.YtojkngdabejjdaaRegs
set_option linter.unusedVariables false
set_option linter.unusedSimpArgs false
/- Walks: sums of arrays. -/
namespace Go.Proofs.Ytojkngdabejjdaa
open Go.RowKit

/-- A sum with a multiple. -/
def sumF (p t : Int) (f g : Nat → Int) : Nat → Int := fun i => (f i + t * g i) % p
/-- A byte less than p stays itself. -/
theorem addF_range {p : Int} (hp : Pr p) (x : Int) : 0 ≤ x % p ∧ x % p ≤ 6 := by
  have := hp.pos
  have h1 := Int.emod_nonneg x (show p ≠ 0 by omega)
  have h2 := Int.emod_lt_of_pos x (show 0 < p by omega)
  omega

set_option maxHeartbeats 2000000 in
theorem l01Add_any (f g : Nat → Int) (p k : Int) (w : World) (hp : Pr p) (hf : By f) (hg : By g) (hk0 : -1000 ≤ k) (hk1 : k ≤ 1000) :
    Calls Try.prog 49 #[.int .i64 p, .agg (u8s 64 f), .agg (u8s 64 g), .int .i64 k] w fun e w' => e = .returned (.agg (u8s 64 fun i => (f i + k * g i) % p)) ∧ Below w.heap.size w w' := by
  have hfH := Lib.hid hf
  have hgH := Lib.hid hg
  have hpH := Lib.hid hp
  have hp1 := hp.pos.1
  have hp2 := hp.pos.2
  have hpz : (p == 0) = false := by rw [beq_eq_false_iff_ne]; omega
  obtain ⟨hb0, hB1, hB2, hB3⟩ := boxes3 w (u8s 64 f) (u8s 64 g) (u8s 64 fun _ => 0) 25 25 25
  clear hf hg hp
  go_enter Try.func49, Try.ntmps49
  go_wp2_with (first | (refine wpl_alloc_arr rfl 25 rfl _ zPoly ?_))
  go_loopw [9] (fun i wr => ∃ n : Nat, n ≤ 64 ∧ i = .int .i64 n ∧ Blk wr w.heap.size (u8s 64 fun j => if j < n then (f j + k * g j) % p else f j) 25 ∧ Blk wr (w.heap.size + 1) (u8s 64 g) 25 ∧ Blk wr (w.heap.size + 1 + 1) (u8s 64 fun _ => 0) 25 ∧ Below w.heap.size w wr) (fun i _ => 64 - (intOf i).toNat)
  case atStart => exact ⟨0, by omega, rfl, hB1.cast (u8s_ext fun j _ => by simp), hB2, hB3, hb0⟩
  case round =>
    clear hB1 hB2 hB3 hb0
    obtain ⟨n, hn, rfl, b0, b1, b2, hb⟩ := hrel
    by_cases hlt : n < 64
    · have c0 : wr.cell? ⟨w.heap.size, n, none⟩ = some (.int .u8 (f n)) := by rw [b0.cell, u8s_get _ hlt]; simp
      have c1 : wr.cell? ⟨w.heap.size + 1, n, none⟩ = some (.int .u8 (g n)) := by rw [b1.cell, u8s_get _ hlt]
      have c2 := b0.free n
      have hz := hfH.out n
      have hz0 := hz.1
      have hz1 := hz.2
      have hy := hgH.out n
      have hy0 := hy.1
      have hy1 := hy.2
      have hm0 : -255000 ≤ k * g n := by have := Int.mul_le_mul_of_nonneg_right hk0 hy0; omega
      have hm1 : k * g n ≤ 255000 := by have := Int.mul_le_mul_of_nonneg_right hk1 hy0; omega
      have ht := tmod_range p (f n + k * g n) (by omega)
      have ht0 := ht.1
      have ht1 := ht.2
      have hrr := Lib.hid (tmod_reduce p (f n + k * g n) (by omega))
      have hru := addF_range hpH.out ((f n + k * g n).tmod p + p)
      have hr0 := hru.1
      have hr1 := hru.2
      have hi0 : (0 : Int) ≤ (n : Int) := by omega
      have hi3 : (n : Int) < 64 := by omega
      clear hz hy ht hru
      go_wp2_with fail
      go_region
      go_wp2
      go_roundw
      case rel =>
        refine ⟨n + 1, by omega, by go_num, ?_, (b1.set_other _ _ (by simp)).drew, (b2.set_other _ _ (by simp; omega)).drew, (hb.setCell (by simp) _).drew⟩
        refine ((b0.set n _).cast ?_).drew
        rw [u8s_set]; apply u8s_ext; intro j _
        by_cases e1 : j = n
        · subst e1
          have e : (f j + k * g j).tmod p % p = (f j + k * g j) % p := by simpa using hrr.out
          have hq := addF_range hpH.out (f j + k * g j)
          simp [e, Int.emod_eq_of_lt hq.1 (show (f j + k * g j) % p < 256 by omega)]
        · by_cases e2 : j < n
          · simp [e1, e2, show j < n + 1 by omega]
          · simp [e1, e2, show ¬ j < n + 1 by omega]
      case measure => simp [intOf] <;> omega
    · obtain rfl : n = 64 := by omega
      have b3 := b0.cast (u8s_ext (g := fun j => (f j + k * g j) % p) fun j hj => by rw [if_pos hj])
      clear b0
      go_wp2_with (first | (refine wpl_load_arr rfl 25 _ rfl _ rfl _ _ b3 _ _ uPoly sPoly ?_) | (refine wpl_store_arr rfl 25 _ _ rfl _ rfl _ rfl _ _ b2 sPoly rfl (u8s_oneCell _ _) ?_))
      exact bodyPost_ret (res_c rfl rfl (b2.setRow_same (cs := u8s 64 fun j => (f j + k * g j) % p)) uPoly sPoly) rfl ⟨rfl, below_setRow hb (by omega) _⟩
theorem l01Add_sum (f g : Nat → Int) (p k : Int) (w : World) (hp : Pr p) (hf : By f) (hg : By g) (hk0 : -1000 ≤ k) (hk1 : k ≤ 1000) :
    Calls Try.prog 49 #[.int .i64 p, .agg (u8s 64 f), .agg (u8s 64 g), .int .i64 k] w fun e w' => e = .returned (.agg (u8s 64 (sumF p k f g))) ∧ Below w.heap.size w w' :=
  l01Add_any f g p k w hp hf hg hk0 hk1
end Go.Proofs.Ytojkngdabejjdaa

/- Walks: products of arrays, inverses. -/
namespace Go.Proofs.Ytojkngdabejjdaa
open Go.RowKit

/-- A polynomial as the program's array holds it: of at most 64 coefficients. -/
structure P64 (p : Int) (xs : List Int) : Prop where
  pr : Pr p
  po : Po p xs
  le : xs.length ≤ 64
theorem P64.rng {p : Int} {xs : List Int} (h : P64 p xs) (i : Nat) : 0 ≤ cf xs i ∧ cf xs i ≤ 6 := cf_lt7 h.pr h.po.md i
theorem P64.by {p : Int} {xs : List Int} (h : P64 p xs) : By (cf xs) := fun i => by have := h.rng i; omega
theorem P64.self {p : Int} {xs : List Int} (h : P64 p xs) : mkp 64 (cf xs) = xs := mkp_of_Tr h.po.tr h.le
theorem l01Deg_list (p : Int) (xs : List Int) (w : World) (h : P64 p xs) :
    Calls Try.prog 18 #[.agg (u8s 64 (cf xs))] w fun e w' => e = .returned (.int .i64 ((xs.length : Int) - 1)) ∧ Below w.heap.size w w' := by
  have := l01Deg_any (cf xs) w fun i _ => h.by i
  rwa [h.self] at this
theorem toldF_nil : toldF [] = fun _ => 0 := by
  have h : toldF [] = cf [] := if_pos (by decide)
  rw [h]; funext i; exact cf_nil i
theorem times_long {p : Int} {xs ys : List Int} (hx : P64 p xs) (hy : P64 p ys) (h1 : 0 < xs.length) (h2 : 0 < ys.length) : (mulp p xs ys).length + 1 = xs.length + ys.length :=
  mulp_length hx.pr hx.po hy.po (fun e => by rw [e] at h1; simp at h1) (fun e => by rw [e] at h2; simp at h2)
theorem times_end0 {p : Int} {xs ys : List Int} (h : xs.length = 0 ∨ ys.length = 0) : Ending.returned (.tuple #[.agg (u8s 64 fun _ => 0), .bool true]) = .returned (.tuple #[.agg (u8s 64 (toldF (mulp p xs ys))), .bool (decide ((mulp p xs ys).length ≤ 64))]) := by
  have hm : mulp p xs ys = [] := by
    rcases h with h | h
    · rw [List.length_eq_zero_iff.1 h, mulp_nil]
    · rw [List.length_eq_zero_iff.1 h, mulp_nil_right]
  rw [hm, toldF_nil]; rfl
theorem times_end1 {p : Int} {xs ys : List Int} (hx : P64 p xs) (hy : P64 p ys) (h1 : 0 < xs.length) (h2 : 0 < ys.length) (h3 : xs.length + ys.length ≤ 65) :
    Ending.returned (.tuple #[.agg (u8s 64 fun n => pmul (cf xs) (cf ys) n % p), .bool true]) = .returned (.tuple #[.agg (u8s 64 (toldF (mulp p xs ys))), .bool (decide ((mulp p xs ys).length ≤ 64))]) := by
  have hL64 : (mulp p xs ys).length ≤ 64 := by have := times_long hx hy h1 h2; omega
  have e1 : u8s 64 (toldF (mulp p xs ys)) = u8s 64 fun n => pmul (cf xs) (cf ys) n % p := by
    unfold toldF; rw [if_pos hL64]; exact u8s_ext fun n _ => mulp_cf _ _ _
  rw [e1, decide_eq_true hL64]
theorem times_end2 {p : Int} {xs ys : List Int} (hx : P64 p xs) (hy : P64 p ys) (h1 : 0 < xs.length) (h2 : 0 < ys.length) (h3 : ¬ xs.length + ys.length ≤ 65) :
    Ending.returned (.tuple #[.agg (u8s 64 fun _ => 0), .bool false]) = .returned (.tuple #[.agg (u8s 64 (toldF (mulp p xs ys))), .bool (decide ((mulp p xs ys).length ≤ 64))]) := by
  have hL64 : ¬ (mulp p xs ys).length ≤ 64 := by have := times_long hx hy h1 h2; omega
  have e1 : toldF (mulp p xs ys) = fun _ => 0 := if_neg hL64
  rw [e1, decide_eq_false hL64]
theorem prt_mod (p : Int) (f g : PS) (k j n : Nat) : prt f g k (j + 1) n % p = if n = k + j then (prt f g k j n % p + f k * g j) % p else prt f g k j n % p := by
  rw [prt_step]; split
  · rw [Int.emod_add_emod]
  · rfl
theorem pmod_range {p : Int} (hp : Pr p) (x : Int) : 0 ≤ x % p ∧ x % p ≤ 6 := addF_range hp x

set_option maxRecDepth 20000 in
set_option maxHeartbeats 2000000 in
theorem l01Times_any (xs ys : List Int) (p : Int) (w : World) (hx : P64 p xs) (hy : P64 p ys) :
    Calls Try.prog 48 #[.int .i64 p, .agg (u8s 64 (cf xs)), .agg (u8s 64 (cf ys))] w fun e w' => e = .returned (.tuple #[.agg (u8s 64 (toldF (mulp p xs ys))), .bool (decide ((mulp p xs ys).length ≤ 64))]) ∧ Below w.heap.size w w' := by
  have hxH := Lib.hid hx
  have hyH := Lib.hid hy
  have hp1 := hx.pr.pos.1
  have hp2 := hx.pr.pos.2
  have hpz : (p == 0) = false := by rw [beq_eq_false_iff_ne]; omega
  have hlx := hx.le
  have hly := hy.le
  clear hx hy
  obtain ⟨hb0, hA, hB1, hZ⟩ := boxes3 w (u8s 64 (cf xs)) (u8s 64 (cf ys)) (u8s 64 fun _ => 0) 25 25 25
  go_enter Try.func48, Try.ntmps48
  go_wp2_with (first | (refine wpl_alloc_arr rfl 25 rfl _ zPoly ?_))
  go_upto_region 1 with (fail)
  refine law_region2 (by kernel_rfl) (by kernel_rfl) (by kernel_rfl) (by kernel_rfl)
      (fun i => ([some (.agg (u8s 64 (cf xs))), some (.int .i64 ((xs.length : Int) - 1)), some (.agg (u8s 64 (cf ys))), some (.int .i64 ((ys.length : Int) - 1)), some (.agg (u8s 64 fun _ => 0)), none, some (.int .i64 ((xs.length : Int) - 1)), some (.int .i64 ((ys.length : Int) - 1)), none] : List (Option Value)).getD i none) 1 (fun k => [5].getD k 0) (fun k => [8].getD k 0) (fun k => [4].getD k 0) (fun k => [10].getD k 0) (fun k => [17].getD k 0) (fun k => [64].getD k 0) (fun k => [(fun _ => 0)].getD k (fun _ => 0)) (fun k => [25].getD k 0) ?_ ?_ ?_ ?_ ?_ ?_
  · intro i hi
    rcases i with _|_|_|_|_|_|_|_|_|i
    · exact .inl ⟨_, rfl⟩
    · exact .inl ⟨_, rfl⟩
    · exact .inl ⟨_, rfl⟩
    · exact .inl ⟨_, rfl⟩
    · exact .inl ⟨_, rfl⟩
    · exact .inr (.inl ⟨0, by decide, rfl⟩)
    · exact .inl ⟨_, rfl⟩
    · exact .inl ⟨_, rfl⟩
    · exact .inr (.inr ⟨0, by decide, rfl⟩)
    · simp only [List.length_cons, List.length_nil] at hi; omega
  · intro k hk
    rcases k with _|k
    · exact ⟨rfl, rfl, rfl, zPoly⟩
    · omega
  · intro k hk k' hk'
    rcases k with _|k
    all_goals rcases k' with _|k'
    all_goals first | omega | exact ⟨by decide, by decide, by decide⟩
  · intro k hk
    rcases k with _|k
    · kernel_rfl
    · omega
  · intro i o c ho hc a w2 hB hrd hpar
    rcases i with _|_|_|_|_|_|_|_|_|i
    · obtain rfl := Option.some.inj ho
      obtain rfl := Option.some.inj hc
      exact wp_loadB 25 _ rfl _ (hpar 4 (.pointer (some ⟨w.heap.size, 0, none⟩)) (by kernel_rfl) (by kernel_rfl)) _ _ (hA.keep hB) _ _ uPoly sPoly
    · obtain rfl := Option.some.inj ho
      obtain rfl := Option.some.inj hc
      exact wp_callB 18 [.tmp 13] _ rfl [.agg (u8s 64 (cf xs))] (by simp only [List.map_cons, List.map_nil, (hrd 0 _ _ 13 rfl rfl rfl (by kernel_rfl) (by kernel_rfl))]) Try.call18 _ (l01Deg_list p xs w2 hxH.out)
    · obtain rfl := Option.some.inj ho
      obtain rfl := Option.some.inj hc
      exact wp_loadB 25 _ rfl _ (hpar 5 (.pointer (some ⟨w.heap.size + 1, 0, none⟩)) (by kernel_rfl) (by kernel_rfl)) _ _ (hB1.keep hB) _ _ uPoly sPoly
    · obtain rfl := Option.some.inj ho
      obtain rfl := Option.some.inj hc
      exact wp_callB 18 [.tmp 15] _ rfl [.agg (u8s 64 (cf ys))] (by simp only [List.map_cons, List.map_nil, (hrd 2 _ _ 15 rfl rfl rfl (by kernel_rfl) (by kernel_rfl))]) Try.call18 _ (l01Deg_list p ys w2 hyH.out)
    · obtain rfl := Option.some.inj ho
      obtain rfl := Option.some.inj hc
      exact wp_build_zeroB 25 64 5 rfl uPoly sByte zPoly
    · cases hc
    · obtain rfl := Option.some.inj ho
      obtain rfl := Option.some.inj hc
      exact wp_assign _ (.int .i64 ((xs.length : Int) - 1)) rfl (hrd 1 _ _ 14 rfl rfl rfl (by kernel_rfl) (by kernel_rfl))
    · obtain rfl := Option.some.inj ho
      obtain rfl := Option.some.inj hc
      exact wp_assign _ (.int .i64 ((ys.length : Int) - 1)) rfl (hrd 3 _ _ 16 rfl rfl rfl (by kernel_rfl) (by kernel_rfl))
    · cases hc
    · cases hc
  intro vals xT hB hc hr
  have e0 : vals 0 = .agg (u8s 64 (cf xs)) := hc 0 _ (by simp) rfl
  have e1 : vals 1 = .int .i64 ((xs.length : Int) - 1) := hc 1 _ (by simp) rfl
  have e2 : vals 2 = .agg (u8s 64 (cf ys)) := hc 2 _ (by simp) rfl
  have e3 : vals 3 = .int .i64 ((ys.length : Int) - 1) := hc 3 _ (by simp) rfl
  have e4 : vals 4 = .agg (u8s 64 fun _ => 0) := hc 4 _ (by simp) rfl
  have e6 : vals 6 = .int .i64 ((xs.length : Int) - 1) := hc 6 _ (by simp) rfl
  have e7 : vals 7 = .int .i64 ((ys.length : Int) - 1) := hc 7 _ (by simp) rfl
  obtain ⟨gT0, p0, hgT0, hT0⟩ : ∃ g, vals 5 = .pointer (some ⟨g, 0, none⟩) ∧ _ ≤ g ∧ Blk xT g (u8s 64 (fun _ => 0)) 25 := hr 0 (by decide)
  simp only [List.length_cons, List.length_nil, Nat.zero_add, Nat.reduceAdd, List.replicate, putAll, if_true, Act.put, List.setIfInBounds_toArray, List.set_cons_zero, List.set_cons_succ, e0, e1, e2, e3, e4, e6, e7, p0]
  replace hA := hA.keep hB
  replace hB1 := hB1.keep hB
  replace hZ := hZ.keep hB
  replace hb0 := below_step hb0 hB
  clear hc hr e0 e1 e2 e3 e4 e6 e7 p0
  clear hB
  have hgT := Lib.hid hgT0
  have hsz := hA.lt
  have hsz1 := hB1.lt
  have hsz2 := hZ.lt
  have hne0 : gT0 ≠ w.heap.size := by have := hgT.out; simp at this; omega
  have hne1 : gT0 ≠ w.heap.size + 1 := by have := hgT.out; simp at this; omega
  have hne2 : gT0 ≠ w.heap.size + 1 + 1 := by have := hgT.out; simp at this; omega
  have hge : w.heap.size ≤ gT0 := by have := hgT.out; simp at this; omega
  clear hgT0 hgT hsz hsz1 hsz2
  by_cases h1 : xs.length = 0
  · have hend := Lib.hid (show xs.length = 0 ∨ ys.length = 0 from .inl h1)
    have h1i : (xs.length : Int) - 1 < 0 := by omega
    clear h1
    go_wp2_with (first | (refine wpl_load_arr rfl 25 _ rfl _ rfl _ _ hT0 _ _ uPoly sPoly ?_) | (refine wpl_store_arr rfl 25 _ _ rfl _ rfl _ rfl _ _ hZ sPoly rfl (u8s_oneCell _ _) ?_))
    exact bodyPost_ret (res_ct (x := .bool true) rfl rfl (hZ.setRow_same (cs := u8s 64 fun _ => 0)) uPoly sPoly rfl) rfl ⟨times_end0 hend.out, below_setRow hb0 (by omega) _⟩
  by_cases h2 : ys.length = 0
  · have hend := Lib.hid (show xs.length = 0 ∨ ys.length = 0 from .inr h2)
    have h1i : ¬ (xs.length : Int) - 1 < 0 := by omega
    have h2i : (ys.length : Int) - 1 < 0 := by omega
    clear h2
    go_wp2_with (first | (refine wpl_load_arr rfl 25 _ rfl _ rfl _ _ hT0 _ _ uPoly sPoly ?_) | (refine wpl_store_arr rfl 25 _ _ rfl _ rfl _ rfl _ _ hZ sPoly rfl (u8s_oneCell _ _) ?_))
    exact bodyPost_ret (res_ct (x := .bool true) rfl rfl (hZ.setRow_same (cs := u8s 64 fun _ => 0)) uPoly sPoly rfl) rfl ⟨times_end0 hend.out, below_setRow hb0 (by omega) _⟩
  by_cases h3 : xs.length + ys.length ≤ 65
  · have hend := Lib.hid (times_end1 hxH.out hyH.out (by omega) (by omega) h3)
    have hF1 := Lib.hid (cf_Fin0 xs)
    have hF2 := Lib.hid (cf_Fin0 ys)
    have hxR := Lib.hid hxH.out.rng
    have hyR := Lib.hid hyH.out.rng
    have hprH := Lib.hid hxH.out.pr
    clear hxH hyH
    generalize hLx : xs.length = LX at *
    generalize hLy : ys.length = LY at *
    clear hLx hLy
    go_wp2_with fail
    go_loopw [11] (fun i wr => ∃ k : Nat, k ≤ LX ∧ i = .int .i64 k ∧ Blk wr w.heap.size (u8s 64 (cf xs)) 25 ∧ Blk wr (w.heap.size + 1) (u8s 64 (cf ys)) 25 ∧ Blk wr (w.heap.size + 1 + 1) (u8s 64 fun _ => 0) 25 ∧ Blk wr gT0 (u8s 64 fun n => prt (cf xs) (cf ys) k 0 n % p) 25 ∧ Below w.heap.size w wr) (fun i _ => LX - (intOf i).toNat)
    case atStart => exact ⟨0, by omega, rfl, hA, hB1, hZ, hT0.cast (u8s_ext fun n _ => by rw [prt_start]; simp), hb0⟩
    case round =>
      clear hA hB1 hZ hT0 hb0
      obtain ⟨k, hk, rfl, b0, b1, b2, b3, hb⟩ := hrel
      by_cases hlt : k < LX
      · go_wp2_with fail
        simp only [show decide ((k : Int) ≤ (LX : Int) - 1) = true from decide_eq_true (by omega)]
        go_loopw [12] (fun i wr => ∃ j : Nat, j ≤ LY ∧ (cf xs k = 0 → j = 0) ∧ i = .int .i64 j ∧ Blk wr w.heap.size (u8s 64 (cf xs)) 25 ∧ Blk wr (w.heap.size + 1) (u8s 64 (cf ys)) 25 ∧ Blk wr (w.heap.size + 1 + 1) (u8s 64 fun _ => 0) 25 ∧ Blk wr gT0 (u8s 64 fun n => prt (cf xs) (cf ys) k j n % p) 25 ∧ Below w.heap.size w wr) (fun i _ => LY - (intOf i).toNat)
        case atStart => exact ⟨0, by omega, fun _ => rfl, rfl, b0, b1, b2, b3, hb⟩
        case round =>
          clear b0 b1 b2 b3 hb
          obtain ⟨j, hj, hjz, rfl, b0, b1, b2, b3, hb⟩ := hrel
          have hjzH := Lib.hid hjz
          clear hjz
          have hx := hxR.out k
          have hx0 := hx.1
          have hx1 := hx.2
          have c0 : wr.cell? ⟨w.heap.size, k, none⟩ = some (.int .u8 (cf xs k)) := by rw [b0.cell, u8s_get _ (by omega)]
          have hk64 : (k : Int) < 64 := by omega
          clear hx
          by_cases hlt2 : j < LY
          · by_cases hz : cf xs k = 0
            · have hj0 := hjzH.out hz
              have hzb : (cf xs k == 0) = true := by rw [hz]; rfl
              have b4 : Blk wr gT0 (u8s 64 fun n => prt (cf xs) (cf ys) (k + 1) 0 n % p) 25 := b3.cast (u8s_ext fun n _ => by rw [hj0, prt_skip hz])
              clear hz hj0 b3
              go_wp2_with fail
              go_roundw
              case rel => exact ⟨k + 1, by omega, by go_num, b0, b1, b2, b4, hb⟩
              case measure => simp [intOf] <;> omega
            · have hzb : (cf xs k == 0) = false := by rw [beq_eq_false_iff_ne]; exact hz
              have hzH := Lib.hid hz
              have c1 : wr.cell? ⟨w.heap.size + 1, j, none⟩ = some (.int .u8 (cf ys j)) := by rw [b1.cell, u8s_get _ (by omega)]
              have c2 : wr.cell? ⟨gT0, k + j, none⟩ = some (.int .u8 (prt (cf xs) (cf ys) k j (k + j) % p)) := by rw [b3.cell, u8s_get _ (by omega)]
              have c3 := b3.free (k + j)
              have hy := hyR.out j
              have hy0 := hy.1
              have hy1 := hy.2
              have ht := term_bound hx0 hx1 hy0 hy1
              have ht0 := ht.1
              have ht1 := ht.2
              have hq := pmod_range hprH.out (prt (cf xs) (cf ys) k j (k + j))
              have hq0 := hq.1
              have hq1 := hq.2
              have hkj : (k : Int) + (j : Int) < 64 := by omega
              have hj64 : (j : Int) < 64 := by omega
              clear hy ht hq hz
              go_wp2_with fail
              go_region
              go_wp2
              go_roundw
              case rel =>
                refine ⟨j + 1, by omega, fun h => absurd h hzH.out, by go_num, (b0.set_other _ _ (by simp; omega)).drew, (b1.set_other _ _ (by simp; omega)).drew, (b2.set_other _ _ (by simp; omega)).drew, ?_, (hb.setCell (by simp; omega) _).drew⟩
                refine ((b3.set (k + j) _).cast ?_).drew
                rw [u8s_set]; apply u8s_ext; intro n _
                rw [prt_mod]
                by_cases e1 : n = k + j
                · subst e1
                  have hq := pmod_range hprH.out (prt (cf xs) (cf ys) k j (k + j) + cf xs k * cf ys j)
                  rw [if_pos rfl, if_pos rfl]
                  simp [Int.emod_eq_of_lt hq.1 (show (prt (cf xs) (cf ys) k j (k + j) + cf xs k * cf ys j) % p < 256 by omega)]
                · rw [if_neg e1, if_neg e1]
              case measure => simp [intOf] <;> omega
          · obtain rfl : j = LY := by omega
            have b4 : Blk wr gT0 (u8s 64 fun n => prt (cf xs) (cf ys) (k + 1) 0 n % p) 25 := b3.cast (u8s_ext fun n _ => by rw [prt_row hF2.out])
            clear b3
            go_wp2_with fail
            go_roundw
            case rel => exact ⟨k + 1, by omega, by go_num, b0, b1, b2, b4, hb⟩
            case measure => simp [intOf] <;> omega
      · obtain rfl : k = LX := by omega
        have b4 : Blk wr gT0 (u8s 64 fun n => pmul (cf xs) (cf ys) n % p) 25 := b3.cast (u8s_ext fun n _ => by rw [prt_all hF1.out])
        clear b3
        go_wp2_with (first | (refine wpl_load_arr rfl 25 _ rfl _ rfl _ _ b4 _ _ uPoly sPoly ?_) | (refine wpl_store_arr rfl 25 _ _ rfl _ rfl _ rfl _ _ b2 sPoly rfl (u8s_oneCell _ _) ?_))
        exact bodyPost_ret (res_ct (x := .bool true) rfl rfl (b2.setRow_same (cs := u8s 64 fun n => pmul (cf xs) (cf ys) n % p)) uPoly sPoly rfl) rfl ⟨hend.out, below_setRow hb (by omega) _⟩
  · have hend := Lib.hid h3
    have hlx0 := Lib.hid (show 0 < xs.length by omega)
    have hly0 := Lib.hid (show 0 < ys.length by omega)
    have h1i : ¬ (xs.length : Int) - 1 < 0 := by omega
    have h2i : ¬ (ys.length : Int) - 1 < 0 := by omega
    have h3i : 63 < (xs.length : Int) - 1 + ((ys.length : Int) - 1) := by omega
    clear h1 h2 h3
    go_wp2_with (first | (refine wpl_load_arr rfl 25 _ rfl _ rfl _ _ hT0 _ _ uPoly sPoly ?_) | (refine wpl_store_arr rfl 25 _ _ rfl _ rfl _ rfl _ _ hZ sPoly rfl (u8s_oneCell _ _) ?_))
    exact bodyPost_ret (res_ct (x := .bool false) rfl rfl (hZ.setRow_same (cs := u8s 64 fun _ => 0)) uPoly sPoly rfl) rfl ⟨times_end2 hxH.out hyH.out hlx0.out hly0.out hend.out, below_setRow hb0 (by omega) _⟩

set_option maxHeartbeats 400000 in
theorem l01Inverse_any (p x : Int) (w : World) (hp : Pr p) (h0 : 0 < x) (h1 : x < p) :
    Calls Try.prog 50 #[.int .i64 p, .int .u8 x] w fun e w' => e = .returned (.int .u8 (invp p x)) ∧ w = w' := by
  have hp1 := hp.pos.1
  have hp2 := hp.pos.2
  have hpz : (p == 0) = false := by rw [beq_eq_false_iff_ne]; omega
  have hinv := invp_spec hp h0 h1
  have honly := Lib.hid (fun k : Nat => @invp_only p x k hp h0 h1)
  have hi0 := hinv.1
  have hi1 := hinv.2.1
  clear hp hinv
  generalize hiv : invp p x = y at *
  clear hiv
  go_enter Try.func50, Try.ntmps50
  go_wp2_with fail
  go_loop [5] (fun i => ∃ k : Nat, 1 ≤ k ∧ (k : Int) ≤ y ∧ i = .int .i64 k) (fun i => (y - intOf i).toNat)
  case atStart => exact ⟨1, by omega, by omega, rfl⟩
  case round =>
    obtain ⟨k, hk1, hk2, rfl⟩ := hrel
    have hkp : (k : Int) < p := by omega
    have hm0 : 0 ≤ (k : Int) * x := Int.mul_nonneg (by omega) (by omega)
    have hm1 : (k : Int) * x ≤ 49 := by
      have h2 := Int.mul_le_mul_of_nonneg_right (show (k : Int) ≤ 7 by omega) (show 0 ≤ x by omega)
      omega
    have ho := honly.out k (by omega) hkp
    by_cases he : (k : Int) = y
    · have h3 := ho.2 he
      have h3b : ((k : Int) * x % p == 1) = true := by rw [h3]; rfl
      have hyH := Lib.hid he
      clear ho h3 he
      go_wp2_with fail
      go_ret
      refine ⟨ret_int ?_, rfl⟩
      rw [← hyH.out]
    · have h3 : ¬ (k : Int) * x % p = 1 := fun h => he (ho.1 h)
      have h3b : ((k : Int) * x % p == 1) = false := by rw [beq_eq_false_iff_ne]; exact h3
      clear ho h3
      go_wp2_with fail
      go_round
      case rel => exact ⟨k + 1, by omega, by omega, by go_num⟩
      case measure => simp [intOf] <;> omega
end Go.Proofs.Ytojkngdabejjdaa

/- Walks: division of arrays. -/
namespace Go.Proofs.Ytojkngdabejjdaa
open Go.RowKit

theorem divp_fst_cf {p : Int} (xs ys : List Int) (i : Nat) : cf (divp p xs ys).1 i = dquot p (invp p (cf ys (ys.length - 1))) ys (xs.length - (ys.length - 1)) (cf xs) i := by
  show cf (mkp _ _) i = _
  rw [mkp_cf]; split
  · rfl
  · rw [dquot_ge _ _ _ _ _ _ (by omega)]
theorem divp_snd_cf {p : Int} (xs ys : List Int) (h : 0 < ys.length) (i : Nat) : cf (divp p xs ys).2 i = drest p (invp p (cf ys (ys.length - 1))) ys (xs.length - (ys.length - 1)) (cf xs) i := by
  show cf (mkp _ _) i = _
  rw [mkp_cf]; split
  · rfl
  · by_cases h2 : ys.length - 1 ≤ xs.length
    · exact (drest_len h xs.length _ _ (by omega) (cf_Fin0 xs) i (by omega)).symm
    · rw [show xs.length - (ys.length - 1) = 0 by omega]
      exact (cf_ge xs i (by omega)).symm
theorem P64.quot {p : Int} {xs ys : List Int} (hx : P64 p xs) (hy : P64 p ys) (h : ys ≠ []) : P64 p (divp p xs ys).1 :=
  ⟨hx.pr, (divp_Po hx.pr hx.po hy.po h).1, Nat.le_trans (divp_quot_le p xs ys) (by have := hx.le; omega)⟩
theorem P64.rest {p : Int} {xs ys : List Int} (hx : P64 p xs) (hy : P64 p ys) (h : ys ≠ []) : P64 p (divp p xs ys).2 :=
  ⟨hx.pr, (divp_Po hx.pr hx.po hy.po h).2.1, Nat.le_trans (divp_rest_le p xs ys) hx.le⟩

set_option maxRecDepth 20000 in
set_option maxHeartbeats 2000000 in
theorem l01Divide_any (xs ys : List Int) (p : Int) (w : World) (hx : P64 p xs) (hy : P64 p ys) (hne : ys ≠ []) :
    Calls Try.prog 47 #[.int .i64 p, .agg (u8s 64 (cf xs)), .agg (u8s 64 (cf ys))] w fun e w' => e = .returned (.tuple #[.agg (u8s 64 (cf (divp p xs ys).1)), .agg (u8s 64 (cf (divp p xs ys).2))]) ∧ Below w.heap.size w w' := by
  have hxH := Lib.hid hx
  have hyH := Lib.hid hy
  have hp1 := hx.pr.pos.1
  have hp2 := hx.pr.pos.2
  have hpz : (p == 0) = false := by rw [beq_eq_false_iff_ne]; omega
  have hlx := hx.le
  have hly := hy.le
  have hLY : 0 < ys.length := List.length_pos_iff.2 hne
  have hinv := invp_spec hx.pr (hy.po.lead hne) (hy.po.md _).2
  have hl0 := hy.po.lead hne
  have hl1 := (hy.po.md (ys.length - 1)).2
  have hd1 := Lib.hid (fun i => divp_fst_cf (p := p) xs ys i)
  have hd2 := Lib.hid (fun i => divp_snd_cf (p := p) xs ys hLY i)
  have hxR := Lib.hid hx.rng
  have hyR := Lib.hid hy.rng
  have hprH := Lib.hid hx.pr
  have hIn := Lib.hid (show In p (cf xs) from hx.po.md)
  have hi0 := hinv.1
  have hi1 := hinv.2.1
  obtain ⟨L, hL⟩ : ∃ L, ys.length = L + 1 := ⟨ys.length - 1, by omega⟩
  rw [hL, Nat.add_sub_cancel] at hi0 hi1 hd1 hd2 hl0 hl1
  obtain ⟨K, hK⟩ : ∃ K, xs.length - L = K := ⟨_, rfl⟩
  rw [hK] at hd1 hd2
  have hinvH := Lib.hid (fun w => l01Inverse_any p (cf ys L) w hx.pr hl0 hl1)
  have hLi : (ys.length : Int) - 1 = (L : Int) := by omega
  have hLH := Lib.hid hL
  clear hx hy hne hinv
  generalize hiv : invp p (cf ys L) = inv at *
  clear hiv
  obtain ⟨hb0, hA, hB1, hZ, hY⟩ := boxes4 w (u8s 64 (cf xs)) (u8s 64 (cf ys)) (u8s 64 fun _ => 0) (u8s 64 fun _ => 0) 25 25 25 25
  go_enter Try.func47, Try.ntmps47
  go_wp2_with (first | (refine wpl_alloc_arr rfl 25 rfl _ zPoly ?_) | (refine wpl_build_zero rfl 25 64 5 rfl _ uPoly sByte zPoly ?_) | (refine wpl_load_arr rfl 25 _ rfl _ rfl _ _ hB1 _ _ uPoly sPoly ?_))
  refine (l01Deg_list p ys _ hyH.out).mono ?_
  rintro e w1 ⟨rfl, hb1⟩
  have hA1 := (hA.keep hb1).alloc (.cells (u8s 64 fun _ => 0) 25)
  have hB2 := (hB1.keep hb1).alloc (.cells (u8s 64 fun _ => 0) 25)
  have hZ1 := (hZ.keep hb1).alloc (.cells (u8s 64 fun _ => 0) 25)
  have hY1 := (hY.keep hb1).alloc (.cells (u8s 64 fun _ => 0) 25)
  have hQ1 := Blk.new w1 (u8s 64 fun _ => 0) 25
  have hb2 := below_step (below_step hb0 hb1) (below_new w1 (.cells (u8s 64 fun _ => 0) 25))
  have hQn0 : w1.heap.size ≠ w.heap.size := by have := (hA.keep hb1).lt; omega
  have hQn1 : w1.heap.size ≠ w.heap.size + 1 := by have := (hB1.keep hb1).lt; omega
  have hQn2 : w1.heap.size ≠ w.heap.size + 1 + 1 := by have := (hZ.keep hb1).lt; omega
  have hQn3 : w1.heap.size ≠ w.heap.size + 1 + 1 + 1 := by have := (hY.keep hb1).lt; omega
  have hge : w.heap.size ≤ w1.heap.size := by have := (hA.keep hb1).lt; omega
  have c0 : (w1.alloc (.cells (u8s 64 fun _ => 0) 25)).cell? ⟨w.heap.size + 1, L, none⟩ = some (.int .u8 (cf ys L)) := by rw [hB2.cell, u8s_get _ (by omega)]
  have hL64 : (L : Int) < 64 := by omega
  clear hA hB1 hZ hY hb0 hb1
  rw [hLi]
  go_wp2_with (first | (refine wpl_alloc_arr rfl 25 rfl _ zPoly ?_) | (refine wpl_store_new rfl 25 _ _ rfl _ rfl rfl _ rfl sPoly rfl (u8s_oneCell _ _) ?_))
  refine (hinvH.out _).mono ?_
  rintro e w2 ⟨rfl, rfl⟩
  go_wp2_with (refine wpl_load_arr rfl 25 _ rfl _ rfl _ _ hA1 _ _ uPoly sPoly ?_)
  refine (l01Deg_list p xs _ hxH.out).mono ?_
  rintro e w2 ⟨rfl, hb3⟩
  replace hA1 := hA1.keep hb3
  replace hB2 := hB2.keep hb3
  replace hZ1 := hZ1.keep hb3
  replace hY1 := hY1.keep hb3
  replace hQ1 := hQ1.keep hb3
  replace hb2 := below_step hb2 hb3
  clear hb3 c0
  have hKH := Lib.hid hK
  clear hK
  go_wp2_with fail
  go_loopw [11] (fun i wr => ∃ (k : Nat) (z : Int) (R : Nat → Int) (qv : Nat → Int), k ≤ K ∧ (0 < k → z = (k : Int) + (L : Int) - 1) ∧ (k = 0 → -1 ≤ z ∧ z < (L : Int)) ∧ i = .int .i64 z ∧ In p R ∧ drest p inv ys K (cf xs) = drest p inv ys k R ∧
    (∀ j, dquot p inv ys K (cf xs) j = if k ≤ j then qv j else dquot p inv ys k R j) ∧ Blk wr w.heap.size (u8s 64 R) 25 ∧ Blk wr (w.heap.size + 1) (u8s 64 (cf ys)) 25 ∧ Blk wr (w.heap.size + 1 + 1) (u8s 64 fun _ => 0) 25 ∧ Blk wr (w.heap.size + 1 + 1 + 1) (u8s 64 fun _ => 0) 25 ∧
    Blk wr w1.heap.size (u8s 64 (fun j => if k ≤ j then qv j else 0)) 25 ∧ Below w.heap.size w wr) (fun i _ => (intOf i + 1).toNat)
  case atStart =>
    refine ⟨K, (xs.length : Int) - 1, cf xs, fun _ => 0, Nat.le_refl _, fun h => by have := hKH.out; omega, fun h => by have := hKH.out; omega, rfl, hIn.out, rfl, fun j => ?_, hA1, hB2, hZ1, hY1, hQ1.cast (u8s_ext fun j hj => by simp), hb2⟩
    by_cases hj : K ≤ j
    · rw [if_pos hj, dquot_ge _ _ _ _ _ _ hj]
    · rw [if_neg hj]
  case round =>
    clear hA1 hB2 hZ1 hY1 hQ1 hb2
    obtain ⟨k, z, R, qv, hk, hz1, hz0, rfl, hR, hdr, hdq, b0, b1, b2, b3, hQ, hb⟩ := hrel
    have hRH := Lib.hid hR
    have hdrH := Lib.hid hdr
    have hdqH := Lib.hid hdq
    clear hR hdr hdq
    by_cases h0 : k = 0
    · obtain ⟨hz2, hz3⟩ := hz0 h0
      have eR : drest p inv ys K (cf xs) = R := by rw [hdrH.out, h0]; rfl
      have eQ : ∀ j, qv j = dquot p inv ys K (cf xs) j := fun j => by rw [hdqH.out j, h0, if_pos (Nat.zero_le _)]
      have hQ2 : Blk wr w1.heap.size (u8s 64 (dquot p inv ys K (cf xs))) 25 := hQ.cast (u8s_ext fun j _ => by rw [h0, if_pos (Nat.zero_le _), eQ])
      have b4 : Blk wr w.heap.size (u8s 64 (drest p inv ys K (cf xs))) 25 := by rw [eR]; exact b0
      clear hQ b0 hz1 hz0 hdrH hdqH eR eQ h0
      have hF := Lib.hid (show Ending.returned (.tuple #[.agg (u8s 64 (dquot p inv ys K (cf xs))), .agg (u8s 64 (drest p inv ys K (cf xs)))]) = .returned (.tuple #[.agg (u8s 64 (cf (divp p xs ys).1)), .agg (u8s 64 (cf (divp p xs ys).2))]) by
        rw [u8s_ext (f := dquot p inv ys K (cf xs)) fun i _ => (hd1.out i).symm, u8s_ext (f := drest p inv ys K (cf xs)) fun i _ => (hd2.out i).symm])
      go_upto_region 12 with (fail)
      refine gen_region (ws := w) (w := wr) (B := w.heap.size) (by kernel_rfl) (by kernel_rfl) (by kernel_rfl) (by kernel_rfl)
          (fun i => ([fun v _ => v = .agg (u8s 64 (dquot p inv ys K (cf xs))), fun v _ => v = .agg (u8s 64 (drest p inv ys K (cf xs))), fun _ _ => True, fun _ _ => True] : List (Value → World → Prop)).getD i (fun _ _ => True))
          (fun i => ([true, true, true, true] : List Bool).getD i true)
          2 (fun k => [2, 3].getD k 0) (fun k => [0, 1].getD k 0) (fun k => [6, 7].getD k 0) (fun k => [81, 82].getD k 0) (fun k => [w.heap.size + 1 + 1, w.heap.size + 1 + 1 + 1].getD k 0) (fun k => [64, 64].getD k 0) (fun k => [(dquot p inv ys K (cf xs)), (drest p inv ys K (cf xs))].getD k (fun _ => 0)) (fun k => [(fun _ => 0), (fun _ => 0)].getD k (fun _ => 0)) (fun k => [25, 25].getD k 0) hb (Nat.le_refl _)
          (fun w' => Blk w' (w1.heap.size) (u8s 64 (dquot p inv ys K (cf xs))) 25 ∧ Blk w' (w.heap.size) (u8s 64 (drest p inv ys K (cf xs))) 25 ∧ True) ⟨hQ2.drew, b4.drew, trivial⟩ (fun w1 w2 h hb => ⟨h.1.keep hb, h.2.1.keep hb, trivial⟩) ?_ ?_ ?_ ?_ ?_ ?_ ?_
      · intro k hk w1 cs h
        rcases k with _|_|k
        · exact ⟨h.1.setRow_other (by simp only [List.getD_cons_zero, List.getD_cons_succ] <;> omega), h.2.1.setRow_other (by simp only [List.getD_cons_zero, List.getD_cons_succ] <;> omega), trivial⟩
        · exact ⟨h.1.setRow_other (by simp only [List.getD_cons_zero, List.getD_cons_succ] <;> omega), h.2.1.setRow_other (by simp only [List.getD_cons_zero, List.getD_cons_succ] <;> omega), trivial⟩
        · omega
      · intro i v w1 w2 h hb
        rcases i with _|_|_|_|i
        · exact h
        · exact h
        · exact h
        · exact h
        · exact h
      · intro k hk
        rcases k with _|_|k
        · kernel_rfl
        · kernel_rfl
        · omega
      · intro k hk
        rcases k with _|_|k
        · refine ⟨?_, (by kernel_rfl), b2, fun v w' h => h, by decide, ?_⟩
          · simp only [List.getD_cons_zero, List.getD_cons_succ] <;> omega
          · intro k' hk' hne
            rcases k' with _|_|k'
            all_goals first | omega | exact absurd rfl hne | (refine ⟨?_, by decide⟩; simp only [List.getD_cons_zero, List.getD_cons_succ]; omega)
        · refine ⟨?_, (by kernel_rfl), b3, fun v w' h => h, by decide, ?_⟩
          · simp only [List.getD_cons_zero, List.getD_cons_succ] <;> omega
          · intro k' hk' hne
            rcases k' with _|_|k'
            all_goals first | omega | exact absurd rfl hne | (refine ⟨?_, by decide⟩; simp only [List.getD_cons_zero, List.getD_cons_succ]; omega)
        · omega
      · kernel_rfl
      · intro i o ho hz a w2 hBs hSx hBl hrd hpar
        rcases i with _|_|_|_|i
        · obtain rfl := Option.some.inj ho
          exact wpv_of (wp_loadB 25 _ rfl _ (hpar 8 (.pointer (some ⟨w1.heap.size, 0, none⟩)) (by kernel_rfl) (by kernel_rfl)) _ _ hSx.1 _ _ uPoly sPoly) (fun _ _ => rfl)
        · obtain rfl := Option.some.inj ho
          exact wpv_of (wp_loadB 25 _ rfl _ (hpar 4 (.pointer (some ⟨w.heap.size, 0, none⟩)) (by kernel_rfl) (by kernel_rfl)) _ _ hSx.2.1 _ _ uPoly sPoly) (fun _ _ => rfl)
        · exact absurd rfl (hz 0 (by decide))
        · exact absurd rfl (hz 1 (by decide))
        · simp at ho
      intro vals xE hBx hSx hS0 hcs hrs
      obtain ⟨_, e0⟩ : ∃ _w : World, vals 0 = .agg (u8s 64 (dquot p inv ys K (cf xs))) := hcs 0 (by simp) (by decide)
      obtain ⟨_, e1⟩ : ∃ _w : World, vals 1 = .agg (u8s 64 (drest p inv ys K (cf xs))) := hcs 1 (by simp) (by decide)
      have hsE0 : Blk xE (w.heap.size + 1 + 1) (u8s 64 (dquot p inv ys K (cf xs))) 25 := hrs 0 (by decide)
      have hsE1 : Blk xE (w.heap.size + 1 + 1 + 1) (u8s 64 (drest p inv ys K (cf xs))) 25 := hrs 1 (by decide)
      simp only [List.length_cons, List.length_nil, Nat.zero_add, Nat.reduceAdd, List.replicate, putAll, if_true, Act.put, List.setIfInBounds_toArray, List.set_cons_zero, List.set_cons_succ, e0, e1]
      replace hQ2 := hSx.1
      replace b4 := hSx.2.1
      clear hcs hrs hS0 hSx e0 e1
      go_wp2_with fail
      exact bodyPost_ret (res_cc rfl rfl hsE0 uPoly sPoly rfl hsE1 uPoly sPoly) rfl ⟨hF.out, hBx⟩
    · obtain ⟨m, rfl⟩ : ∃ m, k = m + 1 := ⟨k - 1, by omega⟩
      obtain rfl : z = ((m + L : Nat) : Int) := by have := hz1 (by omega); omega
      have hmL : m + L < 64 := by have := hKH.out; omega
      clear hz1 hz0
      have c0 : wr.cell? ⟨w.heap.size, m + L, none⟩ = some (.int .u8 (R (m + L))) := by rw [b0.cell, u8s_get _ hmL]
      have cq : wr.cell? ⟨w1.heap.size, m, none⟩ = some (.int .u8 0) := by rw [hQ.cell, u8s_get _ (by omega), if_neg (by omega)]
      have cqf := hQ.free m
      have hRt := hRH.out (m + L)
      have hr0 := hRt.1
      have hr1 := hRt.2
      have ht := term_bound hr0 (by omega) (show 0 ≤ inv by omega) (by omega)
      have ht0 := ht.1
      have ht1 := ht.2
      have hqb := mulmod_bound (p := p) (x := R (m + L)) (y := inv) (by omega)
      have hq0 := hqb.1
      have hq1 := hqb.2
      have hmi : ((m + L : Nat) : Int) - (L : Int) = (m : Int) := by omega
      have hm64 : (m : Int) < 64 := by omega
      have hmL64 : ((m + L : Nat) : Int) < 64 := by omega
      have hge2 : (L : Int) ≤ ((m + L : Nat) : Int) := by omega
      have hge3 : ¬ ((m + L : Nat) : Int) < (L : Int) := by omega
      clear ht hqb hRt
      go_wp2_with fail
      generalize hqq : R (m + L) * inv % p = q at *
      have hqH := Lib.hid hqq
      clear hqq
      have b01 := (b0.set_other ⟨w1.heap.size, m, none⟩ (.int .u8 q) (by simp; omega)).cast (cs' := u8s 64 (dpart p q ys m 0 R)) (by rw [dpart_zero])
      have b11 := b1.set_other ⟨w1.heap.size, m, none⟩ (.int .u8 q) (by simp; omega)
      have b21 := b2.set_other ⟨w1.heap.size, m, none⟩ (.int .u8 q) (by simp; omega)
      have b31 := b3.set_other ⟨w1.heap.size, m, none⟩ (.int .u8 q) (by simp; omega)
      have hQ1 := (hQ.set m (.int .u8 q)).cast (cs' := u8s 64 (fun j => if m ≤ j then (if j = m then q else qv j) else 0)) (by
        rw [u8s_set]; apply u8s_ext; intro j _
        by_cases e1 : j = m
        · subst e1; simp
        · by_cases e2 : m ≤ j
          · simp [e1, e2, show m + 1 ≤ j by omega]
          · simp [e1, e2, show ¬ m + 1 ≤ j by omega])
      have hb2 : Below w.heap.size w (wr.setCell ⟨w1.heap.size, m, none⟩ (.int .u8 q)) := hb.setCell (by simp; omega) _
      clear b0 b1 b2 b3 hQ hb c0 cq cqf
      go_loopw [13] (fun i wr => ∃ j : Nat, j ≤ L + 1 ∧ (q = 0 → j = 0) ∧ i = .int .i64 j ∧ Blk wr w.heap.size (u8s 64 (dpart p q ys m j R)) 25 ∧ Blk wr (w.heap.size + 1) (u8s 64 (cf ys)) 25 ∧ Blk wr (w.heap.size + 1 + 1) (u8s 64 fun _ => 0) 25 ∧ Blk wr (w.heap.size + 1 + 1 + 1) (u8s 64 fun _ => 0) 25 ∧
        Blk wr w1.heap.size (u8s 64 (fun j => if m ≤ j then (if j = m then q else qv j) else 0)) 25 ∧ Below w.heap.size w wr) (fun i _ => L + 1 - (intOf i).toNat)
      case atStart => exact ⟨0, by omega, fun _ => rfl, rfl, b01, b11, b21, b31, hQ1, hb2⟩
      case round =>
        clear b01 b11 b21 b31 hQ1 hb2
        obtain ⟨j, hj, hjz, rfl, b0, b1, b2, b3, hQ, hb⟩ := hrel
        have hjzH := Lib.hid hjz
        clear hjz
        have hfin : (q = 0 ∨ j = L + 1) → Blk wr w.heap.size (u8s 64 (dstep p inv ys m R)) 25 := by
          rintro (h | h)
          · have h1 : dpart p q ys m j R = R := by rw [hjzH.out h, dpart_zero]
            rw [h1] at b0
            rwa [dstep_skip hRH.out (by rw [hLH.out]; show R (m + L) * inv % p = 0; rw [hqH.out, h])]
          · have h1 : dpart p q ys m j R = dstep p inv ys m R := by rw [h, ← hLH.out, ← dpart_all, hLH.out]; show _ = dpart p (R (m + L) * inv % p) ys m (L + 1) R; rw [hqH.out]
            rwa [h1] at b0
        have hR2 := dstep_In (p := p) (inv := inv) (b := ys) (i := m) (by omega) hRH.out
        have hdr2 : drest p inv ys K (cf xs) = drest p inv ys m (dstep p inv ys m R) := hdrH.out
        have hdq2 : ∀ j, dquot p inv ys K (cf xs) j = if m ≤ j then (if j = m then q else qv j) else dquot p inv ys m (dstep p inv ys m R) j := by
          intro i
          rw [hdqH.out i]
          by_cases h1 : m + 1 ≤ i
          · rw [if_pos h1, if_pos (by omega), if_neg (by omega)]
          · rw [if_neg h1]
            show (if i = m then R (m + (ys.length - 1)) * inv % p else dquot p inv ys m (dstep p inv ys m R) i) = _
            by_cases h2 : i = m
            · rw [if_pos h2, if_pos (by omega), if_pos h2, ← hqH.out, hLH.out]; rfl
            · rw [if_neg h2, if_neg (by omega)]
        have H := Lib.hid (And.intro hR2 (And.intro hdr2 hdq2))
        have hfH := Lib.hid hfin
        clear hR2 hdr2 hdq2 hfin
        by_cases hlt : j < L + 1
        · by_cases hz : q = 0
          · have b4 := hfH.out (.inl hz)
            have hzb : (q == 0) = true := by rw [hz]; rfl
            clear hfH b0 hz
            go_wp2_with fail
            go_roundw
            case rel => exact ⟨m, (m : Int) + (L : Int) - 1, _, _, by omega, fun _ => rfl, fun h => by omega, by go_num, H.out.1, H.out.2.1, H.out.2.2, b4, b1, b2, b3, hQ, hb⟩
            case measure => simp [intOf] <;> omega
          · have hzH := Lib.hid hz
            have hzb : (q == 0) = false := by rw [beq_eq_false_iff_ne]; exact hz
            have c1 : wr.cell? ⟨w.heap.size + 1, j, none⟩ = some (.int .u8 (cf ys j)) := by rw [b1.cell, u8s_get _ (by omega)]
            have c2 : wr.cell? ⟨w.heap.size, m + j, none⟩ = some (.int .u8 (R (m + j))) := by rw [b0.cell, u8s_get _ (by omega), dpart_at]
            have c3 := b0.free (m + j)
            have hy := hyR.out j
            have hy0 := hy.1
            have hy1 := hy.2
            have hRt := hRH.out (m + j)
            have hs0 := hRt.1
            have hs1 := hRt.2
            have ht := term_bound hq0 (by omega) hy0 hy1
            have ht0 := ht.1
            have ht1 := ht.2
            have htm := tmod_range p (R (m + j) - q * cf ys j) (by omega)
            have htm0 := htm.1
            have htm1 := htm.2
            have hrr := Lib.hid (tmod_reduce p (R (m + j) - q * cf ys j) (by omega))
            have hru := addF_range hprH.out ((R (m + j) - q * cf ys j).tmod p + p)
            have hru0 := hru.1
            have hru1 := hru.2
            have hmj : (m : Int) + (j : Int) < 64 := by omega
            have hj64 : (j : Int) < 64 := by omega
            clear hy hRt ht htm hru hz hfH
            go_wp2_with fail
            go_region
            go_wp2
            go_roundw
            case rel =>
              refine ⟨j + 1, by omega, fun h => absurd h hzH.out, by go_num, ?_, (b1.set_other _ _ (by simp)).drew, (b2.set_other _ _ (by simp; omega)).drew, (b3.set_other _ _ (by simp; omega)).drew, (hQ.set_other _ _ (by simp; omega)).drew, (hb.setCell (by simp) _).drew⟩
              refine ((b0.set (m + j) _).cast ?_).drew
              rw [u8s_set]; apply u8s_ext; intro i _
              rw [dpart_step]
              by_cases e1 : i = m + j
              · subst e1
                have e : (R (m + j) - q * cf ys j).tmod p % p = (R (m + j) - q * cf ys j) % p := by simpa using hrr.out
                have hq := addF_range hprH.out (R (m + j) - q * cf ys j)
                simp [e, Int.emod_eq_of_lt hq.1 (show (R (m + j) - q * cf ys j) % p < 256 by omega)]
              · simp [e1]
            case measure => simp [intOf] <;> omega
        · have b4 := hfH.out (.inr (by omega))
          clear hfH b0
          go_wp2_with fail
          go_roundw
          case rel => exact ⟨m, (m : Int) + (L : Int) - 1, _, _, by omega, fun _ => rfl, fun h => by omega, by go_num, H.out.1, H.out.2.1, H.out.2.2, b4, b1, b2, b3, hQ, hb⟩
          case measure => simp [intOf] <;> omega
end Go.Proofs.Ytojkngdabejjdaa

/- Walks: the polynomials 1 and T, as arrays. -/
namespace Go.Proofs.Ytojkngdabejjdaa
open Go.RowKit
section
variable {P : Program} {ops : Array Oper} {rest : List Oper} {o : Oper} {a : Act} {w : World} {Q : Exit → Act → World → Prop}
theorem wpl_build_one (hw : Region.wanted o (yielded ops a.tmps) = true) (t n e : Nat) (x : Operand) (hop : o.op = .build t #[(0, x)]) (c : Int) (hx : a.eval x = .int .u8 c) (hn : 1 ≤ n) (ht : P.underlying t = some (.array n e)) (hs : (P.info? e).map (·.size) = some 1)
    (hz : (P.info? t).bind (·.zero) = some (.agg (u8s n fun _ => 0)))
    (h : wpList P ops Q rest (a.put o.dst (.agg (u8s n fun j => if j = 0 then c else 0))) w) : wpList P ops Q (o :: rest) a w := by
  refine wpl_wanted hw fun K hK => ?_
  obtain ⟨i, hi, hz⟩ := Option.bind_eq_some_iff.1 hz
  obtain ⟨ie, hie, hse⟩ := Option.map_eq_some_iff.1 hs
  have hK := hK _ _ h
  rw [← u8s_set n (fun _ => 0) 0 c] at hK
  have hne : ¬ (u8s n fun _ => (0 : Int)) = #[] := fun h => by have := congrArg Array.size h; rw [u8s_size] at this; simp at this; omega
  unfold Oper.wp execOp
  simp [hop, hx, Instr.build, zeroValue, typeInfo, hi, hz, Sem.run_bind, Value.cells, run_underlying ht w, sizeOf, hie, hse, Instr.fill, Oper.upon, u8s_size, hne]
  exact hK
theorem wpl_build_two (hw : Region.wanted o (yielded ops a.tmps) = true) (t n e : Nat) (x y : Operand) (hop : o.op = .build t #[(0, x), (1, y)]) (c d : Int) (hx : a.eval x = .int .u8 c) (hy : a.eval y = .int .u8 d) (hn : 2 ≤ n) (ht : P.underlying t = some (.array n e)) (hs : (P.info? e).map (·.size) = some 1)
    (hz : (P.info? t).bind (·.zero) = some (.agg (u8s n fun _ => 0)))
    (h : wpList P ops Q rest (a.put o.dst (.agg (u8s n fun j => if j = 1 then d else if j = 0 then c else 0))) w) : wpList P ops Q (o :: rest) a w := by
  refine wpl_wanted hw fun K hK => ?_
  obtain ⟨i, hi, hz⟩ := Option.bind_eq_some_iff.1 hz
  obtain ⟨ie, hie, hse⟩ := Option.map_eq_some_iff.1 hs
  have hK := hK _ _ h
  rw [← u8s_set n (fun j => if j = 0 then c else 0) 1 d, ← u8s_set n (fun _ => 0) 0 c] at hK
  have hne : ¬ (u8s n fun _ => (0 : Int)) = #[] := fun h => by have := congrArg Array.size h; rw [u8s_size] at this; simp at this; omega
  unfold Oper.wp execOp
  simp [hop, hx, hy, Instr.build, zeroValue, typeInfo, hi, hz, Sem.run_bind, Value.cells, run_underlying ht w, sizeOf, hie, hse, Instr.fill, Oper.upon, u8s_size, hne, show ¬ n < 2 by omega]
  exact hK
end
theorem eval_const {a : Act} {v : Value} : a.eval (.const v) = v := rfl
/-- How long the polynomial in a block is. -/
def polyLen (w : World) (g : Nat) : Nat := match w.heap[g]? with
  | some (.cells cs _ _) => (mkp 64 fun i => match cs[i]? with | some (.int _ z) => z | _ => 0).length
  | _ => 0
theorem polyLen_blk {w : World} {g T : Nat} {xs : List Int} (h : Blk w g (u8s 64 (cf xs)) T) (ht : Tr xs) (hl : xs.length ≤ 64) : polyLen w g = xs.length := by
  unfold polyLen
  unfold Blk at h
  rw [h]
  have : (mkp 64 fun i => match (u8s 64 (cf xs))[i]? with | some (.int _ z) => z | _ => 0) = xs := mkp_eq ht fun i => by
    by_cases hi : i < 64
    · rw [if_pos hi, u8s_get _ hi]
    · rw [if_neg hi, cf_ge xs i (by omega)]
  show (mkp 64 fun i => match (u8s 64 (cf xs))[i]? with | some (.int _ z) => z | _ => 0).length = _
  rw [this]
theorem sumF_list (p t : Int) (xs ys : List Int) : sumF p t (cf xs) (cf ys) = cf (addp p xs ys t) := by funext i; exact (addp_cf xs ys t i).symm
theorem l01Add_list (xs ys : List Int) (p k : Int) (w : World) (hx : P64 p xs) (hy : P64 p ys) (hk0 : -1000 ≤ k) (hk1 : k ≤ 1000) :
    Calls Try.prog 49 #[.int .i64 p, .agg (u8s 64 (cf xs)), .agg (u8s 64 (cf ys)), .int .i64 k] w fun e w' => e = .returned (.agg (u8s 64 (cf (addp p xs ys k)))) ∧ Below w.heap.size w w' := by
  rw [← sumF_list]; exact l01Add_sum _ _ p k w hx.pr hx.by hy.by hk0 hk1
theorem cf_void : cf [] = fun _ => 0 := by funext i; exact cf_nil i
theorem P64.nil {p : Int} (hp : Pr p) : P64 p [] := ⟨hp, Po_nil (by have := hp.pos; omega), by simp⟩
theorem P64.addp {p : Int} {xs ys : List Int} (hx : P64 p xs) (hy : P64 p ys) (t : Int) : P64 p (addp p xs ys t) :=
  ⟨hx.pr, addp_Po (by have := hx.pr.pos; omega) _ _ _, Nat.le_trans (addp_length p xs ys t) (Nat.max_le.2 ⟨hx.le, hy.le⟩)⟩
theorem l01Add_zero (ys : List Int) (p k : Int) (w : World) (hy : P64 p ys) (hk0 : -1000 ≤ k) (hk1 : k ≤ 1000) :
    Calls Try.prog 49 #[.int .i64 p, .agg (u8s 64 fun _ => 0), .agg (u8s 64 (cf ys)), .int .i64 k] w fun e w' => e = .returned (.agg (u8s 64 (cf (addp p [] ys k)))) ∧ Below w.heap.size w w' := by
  have := l01Add_list [] ys p k w (P64.nil hy.pr) hy hk0 hk1
  rwa [cf_void] at this
theorem l01Times_in (xs ys : List Int) (p : Int) (w : World) (hx : P64 p xs) (hy : P64 p ys) (hl : (mulp p xs ys).length ≤ 64) :
    Calls Try.prog 48 #[.int .i64 p, .agg (u8s 64 (cf xs)), .agg (u8s 64 (cf ys))] w fun e w' => e = .returned (.tuple #[.agg (u8s 64 (cf (mulp p xs ys))), .bool true]) ∧ Below w.heap.size w w' := by
  have := l01Times_any xs ys p w hx hy
  rwa [show toldF (mulp p xs ys) = cf (mulp p xs ys) from if_pos hl, decide_eq_true hl] at this
theorem l01One_any (w : World) : Calls Try.prog 20 #[] w fun e w' => e = .returned (.agg (u8s 64 (cf [1]))) ∧ Below w.heap.size w w' := by
  have hb0 := below_new w (.cells (u8s 64 fun _ => 0) 25)
  have hZ := Blk.new w (u8s 64 fun _ => 0) 25
  have he : u8s 64 (fun j => if j = 0 then (1 : Int) else 0) = u8s 64 (cf [1]) := u8s_ext fun i _ => (one_cf 1 i).symm
  have heH := Lib.hid he
  clear he
  go_enter Try.func20, Try.ntmps20
  go_wp2_with (first | (refine wpl_alloc_arr rfl 25 rfl _ zPoly ?_) | (refine wpl_build_one rfl 25 64 5 _ rfl 1 rfl (by decide) uPoly sByte zPoly ?_) | (refine wpl_store_arr rfl 25 _ _ rfl _ rfl _ rfl _ _ hZ sPoly rfl (u8s_oneCell _ _) ?_))
  exact bodyPost_ret (res_c rfl rfl (hZ.setRow_same (cs := u8s 64 _)) uPoly sPoly) rfl ⟨by rw [heH.out], below_setRow hb0 (by omega) _⟩
end Go.Proofs.Ytojkngdabejjdaa
