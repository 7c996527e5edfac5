/- Several texts in one: Sq4, Nrm, MgP, Mg1, Mg2. -/
import Derived.Test.YtnkkkgaojhkniabSq2
import Derived.Test.YtnkkkgaojhkniabPuC
import Derived.Test.YtnkkkgaojhkniabM9
import Derived.Test.YtnkkkgaojhkniabI5
import Derived.Test.YtnkkkgaojhkniabI7
set_option linter.unusedVariables false
set_option linter.unusedSimpArgs false
/- Walks: a cyclic module's matrix has a vector of order n. -/
namespace Go.Proofs.Ytnkkkgaojhkniab
open Go.RowKit
theorem cf_single (c : Int) : cf [c] = psmul c pone := by rw [cons_cf, cf_nil_zero, pmul_comm, pzero_mul, padd_pzero]
theorem cf_xx : cf [0, 1] = xx := by
  rw [cons_cf, cf_one, psmul_zero, pzero_padd, pmul_one]; rfl
theorem entM_form {p : Int} (rows : Nat → List Int) (i j : Nat) : Eqp p (cf (entM p rows i j)) (padd (if j = i then xx else pzero) (psmul (-1) (psmul (cf (rows i) j) pone))) := by
  have h1 : Eqp p (cf (addp p [] [cf (rows i) j] (-1))) (psmul (-1) (psmul (cf (rows i) j) pone)) := by
    refine (addp_eqp p [] _ (-1)).trans (Eqp.of_eq ?_)
    rw [cf_nil_zero, pzero_padd, cf_single]
  unfold entM
  by_cases e : i = j
  · rw [if_pos e, if_pos e.symm]
    refine (addp_eqp p _ _ 1).trans ?_
    rw [cf_xx, psmul_one, padd_comm]
    exact Eqp.add (Eqp.refl _) h1
  · rw [if_neg e, if_neg (fun h => e h.symm), pzero_padd]
    exact h1
theorem Fac.cyclic {p n : Int} {F : Nat → Int} {N k : Nat} {M : MxL} (h : Fac p n F N M) (hS : SqOk p n F) (hk : ∀ i, i < N → ((monic p (M i i)).length ≤ 1 ↔ i < k)) (hc : N - k = 1) :
    ∃ xs, Po p xs ∧ xs.length ≤ N ∧ ∀ d c, Rel p (fun j => cf (lpw p (rowsL F) xs j)) d c → N ≤ d := by
  have hn := h.hn
  subst hn
  have hMx := hS.mx h.by_
  refine cyc_vec h.pr h.pos (rows := rowsL F) hMx.le (A := cfm (entM p (sqM F))) (fun i j hi hj => ?_) h.sm fun i hi => ?_
  · have e : sqM F i = rowsL F i := by unfold rowsL; rw [if_pos (by have := h.le; omega)]; rfl
    have := entM_form (p := p) (sqM F) i j
    rwa [e] at this
  · obtain ⟨m1, m2, _⟩ := monic_ne h.pr (h.sm.po i i (by omega) (by omega)) (h.sm.piv i (by omega))
    have h2 := (hk i (by omega)).2 (by omega)
    have := List.length_pos_iff.2 m1
    omega
end Go.Proofs.Ytnkkkgaojhkniab

/- Walks: powers of p; rows of integers. -/
namespace Go.Proofs.Ytnkkkgaojhkniab
open Go.RowKit
theorem ipow_pos {p : Int} (hp : 2 ≤ p) (n : Nat) : 1 ≤ p ^ n := by
  induction n with
  | zero => simp
  | succ n ih => rw [Int.pow_succ]; have := Int.mul_le_mul ih (show (1 : Int) ≤ p by omega) (by omega) (by omega); omega
theorem ipow_mono {p : Int} (hp : 2 ≤ p) {n m : Nat} (h : n ≤ m) : p ^ n ≤ p ^ m := by
  induction m with
  | zero => obtain rfl : n = 0 := by omega
            exact Int.le_refl _
  | succ m ih =>
    by_cases e : n = m + 1
    · rw [e]; exact Int.le_refl _
    · have h1 := ih (by omega)
      have h2 := ipow_pos hp m
      rw [Int.pow_succ]
      have h3 := Int.mul_le_mul_of_nonneg_left (show (1 : Int) ≤ p by omega) (show 0 ≤ p ^ m by omega)
      omega
theorem ipow_le7 {p : Int} (hp : Pr p) (n : Nat) : p ^ n ≤ 7 ^ n := by
  have hp2 := hp.pos
  induction n with
  | zero => simp
  | succ n ih =>
    rw [Int.pow_succ, Int.pow_succ]
    exact Int.mul_le_mul ih hp2.2 (by omega) (Int.le_trans (by have := ipow_pos hp2.1 n; omega) ih)

set_option maxHeartbeats 1000000 in
theorem norm_any (p most : Int) (n : Nat) (w : World) (hp : 2 ≤ p) (hm : p ^ n ≤ most) (hm2 : most ≤ 2000000000000000000) (hn : n ≤ 1000) :
    Calls Try.prog 44 #[.int .i64 p, .int .i64 n, .int .i64 most] w fun e w' => e = .returned (.int .i64 (p ^ n)) ∧ w = w' := by
  have hall := Lib.hid (fun k (hk : k < n) => (⟨ipow_pos hp k, Int.le_trans (ipow_mono hp (Nat.le_of_lt hk)) hm, by rw [← Int.pow_succ]; exact Int.le_trans (ipow_mono hp (show k + 1 ≤ n by omega)) hm⟩ : 1 ≤ p ^ k ∧ p ^ k ≤ most ∧ p ^ k * p ≤ most))
  go_enter Try.func44, Try.ntmps44
  go_wp2_with fail
  go_loop [7, 9] (fun o i => ∃ (k : Nat) (y : Int), k ≤ n ∧ i = .int .i64 k ∧ o = .int .i64 y ∧ y = p ^ k) (fun _ i => n - (intOf i).toNat)
  case atStart => exact ⟨0, 1, by omega, rfl, rfl, by simp⟩
  case round =>
    obtain ⟨k, y, hk, rfl, rfl, hy⟩ := hrel
    have hyH := Lib.hid hy
    by_cases hlt : k < n
    · have h1 := hall.out k hlt
      rw [← hy] at h1
      have h2 := h1.1
      have h3 := h1.2.1
      have h4 := h1.2.2
      have h5 : ¬ most < y := by omega
      have h6 : 0 ≤ y * p := Int.mul_nonneg (by omega) (by omega)
      clear h1 hy
      go_wp2_with fail
      go_round
      case rel => exact ⟨k + 1, _, by omega, by go_num, rfl, by rw [Int.pow_succ, ← hyH.out]⟩
      case measure => simp [intOf] <;> omega
    · have hkk : k = n := by omega
      clear hy
      go_wp2_with fail
      go_ret
      exact ⟨ret_int (by rw [hyH.out, hkk]), rfl⟩

theorem IsRow_i64s {w : World} {g n : Nat} {F : Nat → Int} {xs : List Int} (hB : Blk w g (i64s n F) 2) (hl : xs.length = n) (hF : ∀ i, i < n → F i = cf xs i) (hn : n ≤ maxLen) : IsRow w (.slice (some ⟨g, 0, none⟩) n n) xs := by
  subst hl
  refine ⟨some ⟨g, 0, none⟩, xs.length, rfl, Nat.le_refl _, hn, fun _ => ⟨g, 0, rfl, fun i hi => ?_⟩⟩
  rw [hB.cell, Nat.zero_add, i64s_get _ hi, hF i hi]
end Go.Proofs.Ytnkkkgaojhkniab

/- The vector with a number, and the first one whose order has the full degree. -/
namespace Go.Proofs.Ytnkkkgaojhkniab
open Go.RowKit
theorem least_nat {Q : Nat → Prop} : ∀ k, Q k → ∃ m, m ≤ k ∧ Q m ∧ ∀ j, j < m → ¬ Q j := by
  intro k
  induction k using Nat.strongRecOn with
  | _ k ih =>
    intro h
    by_cases he : ∃ j, j < k ∧ Q j
    · obtain ⟨j, hj, hq⟩ := he
      obtain ⟨m, h1, h2, h3⟩ := ih j hj hq
      exact ⟨m, by omega, h2, h3⟩
    · exact ⟨k, Nat.le_refl _, h, fun j hj hq => he ⟨j, hj, hq⟩⟩
/-- The vector with the number K: its digits, the last one lowest. -/
def gvec (P n K i : Nat) : Int := if i < n then ((dig P K (n - 1 - i) : Nat) : Int) else 0
/-- The same with its last j entries set to 0. -/
def gcut (P n K j i : Nat) : Int := if i < n ∧ n - 1 - i < j then 0 else gvec P n K i
/-- Its last j entries alone. -/
def gtail (P n K j i : Nat) : Int := if n - 1 - i < j then gvec P n K i else 0
def gxs (P n K : Nat) : List Int := mkp 6 (gvec P n K)
def graw (P n K : Nat) : List Int := (List.range n).map (gvec P n K)
theorem dig_lt {P : Nat} (hP : 0 < P) (K e : Nat) : dig P K e < P := Nat.mod_lt _ hP
theorem gvec_by {p : Int} {P : Nat} (hp : Pr p) (hP : p = P) (n K : Nat) (i : Nat) : 0 ≤ gvec P n K i ∧ gvec P n K i < p := by
  have := hp.pos
  have h := dig_lt (P := P) (by omega) K (n - 1 - i)
  unfold gvec
  split <;> omega
theorem gvec_ge {P n K i : Nat} (h : n ≤ i) : gvec P n K i = 0 := by unfold gvec; rw [if_neg (by omega)]
theorem gcut_zero (P n K i : Nat) : gcut P n K 0 i = gvec P n K i := by unfold gcut; rw [if_neg (by omega)]
theorem gcut_at {P n K j i : Nat} (hi : i + j + 1 = n) : gcut P n K j i = ((dig P K j : Nat) : Int) := by
  unfold gcut gvec; rw [if_neg (by omega), if_pos (by omega), show n - 1 - i = j by omega]
theorem gcut_step {P n K j a : Nat} (ha : a + j + 1 = n) (i : Nat) : (if i = a then 0 else gcut P n K j i) = gcut P n K (j + 1) i := by
  unfold gcut
  by_cases e : i = a
  · rw [if_pos e, if_pos (by omega)]
  · rw [if_neg e]
    by_cases h : i < n ∧ n - 1 - i < j
    · rw [if_pos h, if_pos (by omega)]
    · rw [if_neg h, if_neg (by omega)]
theorem gcut_next {P n K j a : Nat} (hP : 2 ≤ P) (ha : a + j + 1 = n) (hl : ∀ e, e < j → dig P K e = P - 1) (hj : dig P K j < P - 1) (i : Nat) : (if i = a then ((dig P K j : Nat) : Int) + 1 else gcut P n K j i) = gvec P n (K + 1) i := by
  by_cases e : i = a
  · rw [if_pos e]; unfold gvec
    rw [if_pos (by omega), show n - 1 - i = j by omega, dig_next_at hP hl hj]; rfl
  · rw [if_neg e]; unfold gcut gvec
    by_cases hi : i < n
    · by_cases h2 : n - 1 - i < j
      · rw [if_pos ⟨hi, h2⟩, if_pos hi, dig_next_low hP hl h2]; rfl
      · rw [if_neg (by omega), if_pos hi, if_pos hi, dig_next_high hP hl hj (by omega)]
    · rw [if_neg (by omega), if_neg hi, if_neg hi]
theorem dig_more {P n K j : Nat} (hP : 2 ≤ P) (hK : K + 1 < P ^ n) (hl : ∀ e, e < j → dig P K e = P - 1) : j < n := by
  by_cases h : j < n
  · exact h
  have h1 := dig_low hP n fun e he => hl e (by omega)
  rw [Nat.mod_eq_of_lt (by omega)] at h1
  omega
theorem gtail_zero (P n K i : Nat) : gtail P n K 0 i = 0 := by unfold gtail; rw [if_neg (by omega)]
theorem gtail_all {P n K i : Nat} (hi : i < n) : gtail P n K n i = gvec P n K i := by unfold gtail; rw [if_pos (by omega)]
theorem gtail_step {P n K j a : Nat} (ha : a + j + 1 = n) {i : Nat} (hi : i < n) : (if i = a then ((K / P ^ j % P : Nat) : Int) else gtail P n K j i) = gtail P n K (j + 1) i := by
  unfold gtail
  by_cases e : i = a
  · rw [if_pos e, if_pos (by omega)]; unfold gvec; rw [if_pos hi, show n - 1 - i = j by omega]; rfl
  · rw [if_neg e]
    by_cases h : n - 1 - i < j
    · rw [if_pos h, if_pos (by omega)]
    · rw [if_neg h, if_neg (by omega)]
theorem graw_cf (P n K i : Nat) : cf (graw P n K) i = gvec P n K i := by
  unfold graw; rw [cf_map_range]; split
  · rfl
  · rw [gvec_ge (by omega)]
theorem graw_len (P n K : Nat) : (graw P n K).length = n := by unfold graw; simp
theorem graw_trim {P n K : Nat} (hn : n ≤ 6) : trim (graw P n K) = gxs P n K := Tr_ext (trim_Tr _) (mkp_Tr _ _) fun i => by
  rw [trim_cf, graw_cf]; unfold gxs; rw [mkp_cf]; split
  · rfl
  · rw [gvec_ge (by omega)]
theorem gxs_ok {p : Int} {P n K : Nat} (hp : Pr p) (hP : p = P) : R6 p (gxs P n K) ∧ (gxs P n K).length ≤ n := by
  refine ⟨⟨hp, ⟨mkp_Tr _ _, Md_mkp (by have := hp.pos; omega) fun i _ => gvec_by hp hP n K i⟩, mkp_length _ _⟩, Tr_length_le (mkp_Tr _ _) fun i hi => ?_⟩
  rw [mkp_cf]; split
  · exact gvec_ge hi
  · rfl
/-- K is the first number whose vector has an order of the full degree. -/
structure Gen (p : Int) (P n : Nat) (F : Nat → Int) (K : Nat) : Prop where
  lt : K < P ^ n
  full : ∀ d c, Rel p (fun j => cf (lpw p (rowsL F) (gxs P n K) j)) d c → n ≤ d
  low : ∀ k, k < K → ∃ d c, d < n ∧ Rel p (fun j => cf (lpw p (rowsL F) (gxs P n k) j)) d c
theorem Gen.of_vec {p : Int} {P n : Nat} {F : Nat → Int} {xs : List Int} (hp : Pr p) (hP : p = P) (hn : n ≤ 6) (hx : Po p xs) (hl : xs.length ≤ n) (h : ∀ d c, Rel p (fun j => cf (lpw p (rowsL F) xs j)) d c → n ≤ d) : ∃ K, Gen p P n F K := by
  have hp2 := hp.pos
  obtain ⟨K, hK, hd⟩ := dig_all (p := P) (by omega) n (fun e => (cf xs (n - 1 - e)).toNat) fun e _ => by have := hx.md (n - 1 - e); omega
  have hg : gxs P n K = xs := Tr_ext (mkp_Tr _ _) hx.tr fun i => by
    unfold gxs; rw [mkp_cf]
    by_cases hi : i < n
    · rw [if_pos (by omega)]; unfold gvec; rw [if_pos hi, hd _ (by omega), show n - 1 - (n - 1 - i) = i by omega]
      have := hx.md i; omega
    · rw [cf_ge xs i (by omega)]; split
      · exact gvec_ge (by omega)
      · rfl
  obtain ⟨m, hm, hq, hlow⟩ := least_nat (Q := fun k => ∀ d c, Rel p (fun j => cf (lpw p (rowsL F) (gxs P n k) j)) d c → n ≤ d) K (by rw [hg]; exact h)
  refine ⟨m, by omega, hq, fun k hk => ?_⟩
  have h1 := hlow k hk
  by_cases he : ∃ d c, d < n ∧ Rel p (fun j => cf (lpw p (rowsL F) (gxs P n k) j)) d c
  · exact he
  · exact absurd (fun d c hr => by
      by_cases hdn : n ≤ d
      · exact hdn
      · exact absurd ⟨d, c, by omega, hr⟩ he) h1
/-- The orders of the vectors up to K. -/
theorem Gen.order {p : Int} {P n K : Nat} {F : Nat → Int} (h : Gen p P n F K) (hM : Mx p n F (rowsL F)) (hP : p = P) {k : Nat} (hk : k ≤ K) : ∃ kr c, kr ≤ n ∧ (kr < n ↔ k < K) ∧ Rel p (fun j => cf (lpw p (rowsL F) (gxs P n k) j)) kr c ∧ ∀ j, j < kr → ¬ ∃ e, Rel p (fun j => cf (lpw p (rowsL F) (gxs P n k) j)) j e := by
  obtain ⟨hr, hl⟩ := gxs_ok (n := n) (K := k) hM.pr hP
  obtain ⟨kr, c, h1, h2, h3⟩ := least_rel hM.pr (lpw_Po (M := rowsL F) hM.pr.pos.1 hr.po) (lpw_len hM.le hl)
  refine ⟨kr, c, h1, ⟨fun hkr => ?_, fun hkK => ?_⟩, h2, h3⟩
  · by_cases e : k < K
    · exact e
    · obtain rfl : k = K := by omega
      have := h.full kr c h2; omega
  · obtain ⟨d, c2, hd, hr2⟩ := h.low k hkK
    by_cases e : kr < n
    · exact e
    · exact absurd ⟨c2, hr2⟩ (h3 d (by omega))
/-- The number that a vector in memory tells. -/
theorem gen_eps {P n K k g : Nat} {w : World} {t : TypeId} (hP : 2 ≤ P) (hn : n ≤ 6) (hK : K < P ^ n) (hk : k ≤ K) (h : Blk w g (u8s 6 (gvec P n k)) t) : Classical.epsilon (fun j => j ≤ K ∧ Blk w g (u8s 6 (gvec P n j)) t) = k := by
  obtain ⟨h1, h2⟩ := Classical.epsilon_spec (p := fun j => j ≤ K ∧ Blk w g (u8s 6 (gvec P n j)) t) ⟨k, hk, h⟩
  generalize Classical.epsilon (fun j => j ≤ K ∧ Blk w g (u8s 6 (gvec P n j)) t) = m at *
  refine dig_inj hP n (by omega) (by omega) fun e he => ?_
  have c1 := h.cell (n - 1 - e)
  have c2 := h2.cell (n - 1 - e)
  rw [u8s_get _ (by omega)] at c1 c2
  rw [c1] at c2
  have c3 := Option.some.inj c2
  injection c3 with _ c4
  unfold gvec at c4
  rw [if_pos (by omega), if_pos (by omega), show n - 1 - (n - 1 - e) = e by omega] at c4
  omega
end Go.Proofs.Ytnkkkgaojhkniab

/- Walks: ModuleGenerator, the reference's side. -/
namespace Go.Proofs.Ytnkkkgaojhkniab
open Go.RowKit
def mgF (b z : Bool) (f : Nat → Int) : Nat → Int := if b && z then f else fun _ => 0
def mgC (b z : Bool) : Int := if b then (if z then 0 else 4) else 1
set_option maxRecDepth 20000 in
set_option maxHeartbeats 4000000 in
theorem specModuleGenerator_any (F f : Nat → Int) (p n : Int) (b z : Bool) (w : World) (hF : By F) (hb : SqOk p n F ↔ b = true) (hz : b = true → ∃ N k M, Fac p n F N M ∧ k ≤ N ∧ (∀ i, i < N → ((monic p (M i i)).length ≤ 1 ↔ i < k)) ∧ (N - k = 1 ↔ z = true)) (hG : b = true → z = true → ∃ N P K : Nat, n = (N : Int) ∧ p = (P : Int) ∧ Gen p P N F K ∧ f = gvec P N K) :
    Calls Try.prog 24 #[.int .i64 p, .int .i64 n, .agg (u8s 36 F)] w fun e w' => e = .returned (.tuple #[.agg (u8s 6 (mgF b z f)), .int .i64 (mgC b z)]) ∧ Below w.heap.size w w' := by
  have hFH := Lib.hid hF
  have hbH := Lib.hid hb
  have hzH := Lib.hid hz
  have hGH := Lib.hid hG
  clear hF hb hz hG
  obtain ⟨hb, hA, hZ⟩ := boxes2 w (u8s 36 F) (u8s 6 fun _ => 0) 30 28
  go_enter Try.func24, Try.ntmps24
  go_wp2_with ((with_reducible refine wpl_guard ?_); first | (refine wpl_load_arr rfl 30 _ rfl _ rfl _ _ hA _ _ uSquare sSquare ?_) | (refine wpl_alloc_arr rfl 28 rfl _ zRow ?_))
  refine (l05Is_any p n F b _ hFH.out hbH.out).mono ?_
  rintro e u1 ⟨rfl, hn⟩
  replace hA := hA.keep hn
  replace hZ := hZ.keep hn
  replace hb := below_step hb hn
  clear hn
  cases b
  · go_wp2_with ((with_reducible refine wpl_guard ?_); first | (refine wpl_build_zero rfl 28 6 5 rfl _ uRow sByte zRow ?_) | (refine wpl_store_arr rfl 28 _ _ rfl _ rfl _ rfl _ _ hZ sRow (by simp only [u8s_size]) (u8s_oneCell _ _) ?_))
    exact bodyPost_ret (res_ct (x := .int .i64 1) rfl rfl (hZ.setRow_same (cs := u8s 6 fun _ => 0)) uRow sRow rfl) rfl ⟨rfl, below_setRow hb (by omega) _⟩
  obtain ⟨N, k, M, hf', hkn, hk', hz'⟩ := hzH.out (by first | rfl | trivial)
  have hf := Lib.hid hf'
  have hk := Lib.hid hk'
  obtain ⟨L, hLe⟩ : ∃ L, N - k = L := ⟨_, rfl⟩
  rw [hLe] at hz'
  have hLH := Lib.hid hLe
  have hz2 := Lib.hid hz'
  clear hf' hk' hz' hzH hLe
  go_wp2_with ((with_reducible refine wpl_guard ?_); first | (refine wpl_load_arr rfl 30 _ rfl _ rfl _ _ hA _ _ uSquare sSquare ?_) | (refine wpl_alloc_arr rfl 28 rfl _ zRow ?_))
  refine (l05Invariants_any F p n N k M _ hf.out hkn hk.out).mono ?_
  rintro e u2 ⟨v, rfl, hv, hn⟩
  replace hA := hA.keep hn
  replace hZ := hZ.keep hn
  replace hb := below_step hb hn
  clear hn
  rw [hLH.out] at hv
  obtain ⟨oa, ca, rfl⟩ : ∃ oa ca, v = .slice oa L ca := hv.sl
  clear hv
  cases z
  · have hL1 : ¬ (L : Int) = 1 := fun h => by
      have h2 : L = 1 := by omega
      exact absurd (hz2.out.1 h2) (by simp)
    go_wp2_with ((with_reducible refine wpl_guard ?_); first | (refine wpl_build_zero rfl 28 6 5 rfl _ uRow sByte zRow ?_) | (refine wpl_store_arr rfl 28 _ _ rfl _ rfl _ rfl _ _ hZ sRow (by simp only [u8s_size]) (u8s_oneCell _ _) ?_))
    exact bodyPost_ret (res_ct (x := .int .i64 4) rfl rfl (hZ.setRow_same (cs := u8s 6 fun _ => 0)) uRow sRow rfl) rfl ⟨rfl, below_setRow hb (by omega) _⟩
  obtain rfl : L = 1 := hz2.out.2 rfl
  have hS := hbH.out.2 (by first | rfl | trivial)
  obtain ⟨N', P, K, hn', hP, hgen, hfv⟩ := hGH.out (by first | rfl | trivial) (by first | rfl | trivial)
  have hhn := hf.out.hn
  obtain rfl : N' = N := by omega
  subst hn'
  have hMx := hS.mx hFH.out
  have hn6 := hMx.n6
  have hpr := Lib.hid hMx.pr
  have hp2 := hMx.pr.pos
  have hord := Lib.hid (fun k (hk : k ≤ K) => hgen.order hMx hP hk)
  have hPH := Lib.hid hP
  have hMxH := Lib.hid hMx
  have hfvH := Lib.hid hfv
  have hKlt := Lib.hid hgen.lt
  have hN0 := hf.out.pos
  clear hP hS hgen hMx hfv hLH hz2 hGH hhn hf hk hkn
  have hnb := below_new u2 (.cells (u8s 6 fun _ => 0) 28)
  have hV := Blk.new u2 (u8s 6 fun _ => 0) 28
  have hsz := hZ.lt
  have hn := below_setRow hnb (g := u2.heap.size) (Nat.le_refl _) (u8s 6 fun _ => 0)
  have hV2 := (hV.setRow_same (cs := u8s 6 fun _ => 0)).cast (cs' := u8s 6 (gvec P N' 0)) (u8s_ext fun i _ => by unfold gvec dig; split <;> simp)
  have hbs := hb.size
  replace hA := hA.keep hn
  replace hZ := hZ.keep hn
  replace hb := below_step hb hn
  clear hn
  go_upto_region 6 with ((with_reducible refine wpl_guard ?_); first | (refine wpl_build_zero rfl 28 6 5 rfl _ uRow sByte zRow ?_) | (refine wpl_alloc_arr rfl 28 rfl _ zRow ?_) | (refine wpl_store_arr rfl 28 _ _ rfl _ rfl (u8s 6 fun _ => 0) rfl _ _ hV sRow (by simp only [u8s_size]) (u8s_oneCell _ _) ?_))
  simp only [Act.put, List.setIfInBounds_toArray, List.set_cons_zero, List.set_cons_succ, size_alloc]
  generalize World.setRow _ u2.heap.size _ = y0 at *
  obtain ⟨gV, hgV⟩ : ∃ g, u2.heap.size = g := ⟨_, rfl⟩
  have hgs : w.heap.size + 2 ≤ gV := by omega
  rw [hgV] at hV2 ⊢
  clear hV hnb hgV hbs hsz
  go_loopw [9] (fun _ wr => ∃ k : Nat, k ≤ K ∧ Blk wr w.heap.size (u8s 36 F) 30 ∧ Blk wr (w.heap.size + 1) (u8s 6 fun _ => 0) 28 ∧ Blk wr gV (u8s 6 (gvec P N' k)) 28 ∧ Below w.heap.size w wr) (fun _ wr => K - Classical.epsilon (fun j => j ≤ K ∧ Blk wr gV (u8s 6 (gvec P N' j)) 28))
  case atStart => exact ⟨0, by omega, hA, hZ, hV2, hb⟩
  case round =>
    clear hA hZ hV2 hb
    rename World => w0
    obtain ⟨k, hk, hA, hZ, hV, hb⟩ := hrel
    have hVk := Lib.hid hV
    obtain ⟨kr, c, hkr, hkK, hRel, hmin⟩ := hord.out k hk
    have hgx := gxs_ok (n := N') (K := k) hpr.out hPH.out
    have hac := fun w => l05Order_any p N' F (rowsL F) (gxs P N' k) kr c w hMxH.out hgx.1 hgx.2 hRel hmin
    rw [show u8s 6 (cf (gxs P N' k)) = u8s 6 (gvec P N' k) from (u8s_mkp6 _).symm] at hac
    have hacH := Lib.hid hac
    have hcl := hRel.len
    have hdg := Lib.hid (fun w => l01Deg_list p c w ⟨hpr.out, hRel.po, by omega⟩)
    rw [hcl] at hdg
    have hkKH := Lib.hid hkK
    clear hac hgx hRel hmin hkK
    by_cases hlt : k < K
    · have hkn : kr < N' := hkKH.out.2 hlt
      go_wp2_with ((with_reducible refine wpl_guard ?_); first | (refine wpl_load_arr rfl 30 _ rfl _ rfl _ _ hA _ _ uSquare sSquare ?_) | (refine wpl_load_arr rfl 28 _ rfl _ rfl _ _ hV _ _ uRow sRow ?_))
      refine (hacH.out _).mono ?_
      rintro e w1 ⟨rfl, hn⟩
      replace hA := hA.keep hn
      replace hZ := hZ.keep hn
      replace hV := hV.keep hn
      replace hb := below_step hb hn
      clear hn hacH
      go_wp2_with fail
      refine (hdg.out _).mono ?_
      rintro e w2 ⟨rfl, hn⟩
      replace hA := hA.keep hn
      replace hZ := hZ.keep hn
      replace hV := hV.keep hn
      replace hb := below_step hb hn
      clear hn hdg
      have hdeg : ((kr + 1 : Nat) : Int) - 1 < (N' : Int) := by omega
      have hKp : k + 1 < P ^ N' := by have := hKlt.out; omega
      have hKpH := Lib.hid hKp
      have hlt' := Lib.hid hlt
      clear hkKH hcl hKp hlt
      go_upto_region 8 with (fail)
      have hN1 : (N' : Int) - 1 = ((N' - 1 : Nat) : Int) := by omega
      obtain ⟨aN, haN⟩ : ∃ x, N' - 1 = x := ⟨_, rfl⟩
      rw [haN] at hN1
      go_wp2_with fail
      rename World => w3
      go_loopw [9] (fun av wr => ∃ j x : Nat, Hid (x + j + 1 = N') ∧ x < 6 ∧ av = .int .i64 (x : Int) ∧ Hid (∀ e, e < j → dig P k e = P - 1) ∧ Blk wr w.heap.size (u8s 36 F) 30 ∧ Blk wr (w.heap.size + 1) (u8s 6 fun _ => 0) 28 ∧ Blk wr gV (u8s 6 (gcut P N' k j)) 28 ∧ Below w.heap.size w wr) (fun av _ => (intOf av).toNat)
      case atStart => exact ⟨0, aN, Lib.hid (by omega), by omega, by rw [hN1], Lib.hid (fun e h => absurd h (by omega)), hA, hZ, hV.cast (u8s_ext fun i _ => (gcut_zero _ _ _ _).symm), hb⟩
      case round =>
        clear hA hZ hV hb hN1 haN
        rename World => wq
        obtain ⟨j, x, hx, hx6, rfl, hall, hA, hZ, hV, hb⟩ := hrel
        have hx6I : (x : Int) < 6 := by omega
        have c1 : wq.cell? ⟨gV, x, none⟩ = some (.int .u8 ((dig P k j : Nat) : Int)) := by rw [hV.cell, u8s_get _ hx6, gcut_at hx.out]
        have c2 := hV.free x
        have hjn := dig_more (by have := hPH.out; omega) hKpH.out hall.out
        have hdl := dig_lt (P := P) (by have := hPH.out; omega) k j
        obtain ⟨D, hD⟩ : ∃ D, dig P k j = D := ⟨_, rfl⟩
        rw [hD] at c1 hdl
        have hPI := hPH.out
        have hD0 : (D : Int) ≤ 6 := by omega
        by_cases hd : D + 1 = P
        · obtain ⟨x', rfl⟩ : ∃ x', x = x' + 1 := ⟨x - 1, by
            have := dig_more (P := P) (K := k) (n := N') (j := j + 1) (by omega) hKpH.out fun e he => by
              by_cases e1 : e = j
              · rw [e1, hD]; omega
              · exact hall.out e (by omega)
            have := hx.out; omega⟩
          have ht : (D : Int) = p - 1 := by omega
          have htH : ((D : Int) == p - 1) = true := by rw [beq_iff_eq]; exact ht
          have hDH := Lib.hid hD
          have hdH := Lib.hid hd
          clear hdl hPI hD hd ht hjn
          go_wp2_with fail
          go_roundw
          case rel =>
            refine ⟨j + 1, x', Lib.hid (by have := hx.out; omega), by omega, by go_num, Lib.hid (fun e he => ?_), hA.set_other _ _ (by simp only [ne_eq]; omega), hZ.set_other _ _ (by simp only [ne_eq]; omega), ?_, hb.setCell (by simp only []; omega) _⟩
            · by_cases e1 : e = j
              · rw [e1, hDH.out]; have := hdH.out; omega
              · exact hall.out e (by omega)
            · refine (hV.set (x' + 1) _).cast ?_
              rw [u8s_set]; exact u8s_ext fun i _ => gcut_step hx.out i
          case measure => simp [intOf] <;> omega
        · have ht : ¬ (D : Int) = p - 1 := by omega
          have htH : ((D : Int) == p - 1) = false := by rw [beq_eq_false_iff_ne]; exact ht
          have hDH := Lib.hid hD
          have hdH := Lib.hid (by omega : D < P - 1)
          have hV2 := Lib.hid ((hV.set x (.int .u8 ((D : Int) + 1))).cast (cs' := u8s 6 (gvec P N' (k + 1))) (by
            rw [u8s_set]; refine u8s_ext fun i _ => ?_
            have := gcut_next (P := P) (n := N') (K := k) (by omega) hx.out hall.out (by rw [hD]; omega) i
            rw [hD] at this; exact this))
          clear hdl hPI hD hd ht hjn
          go_wp2_with fail
          go_roundw
          case rel => exact ⟨k + 1, by have := hlt'.out; omega, hA.set_other _ _ (by simp only [ne_eq]; omega), hZ.set_other _ _ (by simp only [ne_eq]; omega), hV2.out, hb.setCell (by simp only []; omega) _⟩
          case measure =>
            have hP2 : 2 ≤ P := by have := hPH.out; omega
            rw [gen_eps hP2 hn6 hKlt.out (by have := hlt'.out; omega) hV2.out, gen_eps hP2 hn6 hKlt.out hk hVk.out]
            have := hlt'.out; omega
    · have hkn : ¬ kr < N' := fun h => hlt (hkKH.out.1 h)
      go_wp2_with ((with_reducible refine wpl_guard ?_); first | (refine wpl_load_arr rfl 30 _ rfl _ rfl _ _ hA _ _ uSquare sSquare ?_) | (refine wpl_load_arr rfl 28 _ rfl _ rfl _ _ hV _ _ uRow sRow ?_))
      refine (hacH.out _).mono ?_
      rintro e w1 ⟨rfl, hn⟩
      replace hA := hA.keep hn
      replace hZ := hZ.keep hn
      replace hV := hV.keep hn
      replace hb := below_step hb hn
      clear hn hacH
      go_wp2_with fail
      refine (hdg.out _).mono ?_
      rintro e w2 ⟨rfl, hn⟩
      replace hA := hA.keep hn
      replace hZ := hZ.keep hn
      replace hV := hV.keep hn
      replace hb := below_step hb hn
      clear hn hdg
      have hdeg : ¬ ((kr + 1 : Nat) : Int) - 1 < (N' : Int) := by omega
      obtain rfl : k = K := by omega
      have hfK := Lib.hid (hfvH.out : f = gvec P N' k)
      clear hkKH hcl hlt
      go_wp2_with ((with_reducible refine wpl_guard ?_); first | (refine wpl_load_arr rfl 28 _ rfl _ rfl _ _ hV _ _ uRow sRow ?_) | (refine wpl_store_arr rfl 28 _ _ rfl _ rfl _ rfl _ _ hZ sRow (by simp only [u8s_size]) (u8s_oneCell _ _) ?_))
      exact bodyPost_ret (res_ct (x := .int .i64 0) rfl rfl (hZ.setRow_same (cs := u8s 6 (gvec P N' k))) uRow sRow rfl) rfl ⟨by rw [hfK.out]; rfl, below_setRow hb (by omega) _⟩
end Go.Proofs.Ytnkkkgaojhkniab

/- Walks: ModuleGenerator, the program's side. -/
namespace Go.Proofs.Ytnkkkgaojhkniab
open Go.RowKit
set_option maxRecDepth 20000 in
set_option maxHeartbeats 4000000 in
theorem implModuleGenerator_any (F f : Nat → Int) (p n : Int) (b z : Bool) (w : World) (hF : By F) (hb : SqOk p n F ↔ b = true) (hz : b = true → ∃ N k M, Fac p n F N M ∧ k ≤ N ∧ (∀ i, i < N → ((monic p (M i i)).length ≤ 1 ↔ i < k)) ∧ (N - k = 1 ↔ z = true)) (hG : b = true → z = true → ∃ N P K : Nat, n = (N : Int) ∧ p = (P : Int) ∧ Gen p P N F K ∧ f = gvec P N K) :
    Calls Try.prog 25 #[.int .i64 p, .int .i64 n, .agg (u8s 36 F)] w fun e w' => e = .returned (.tuple #[.agg (u8s 6 (mgF b z f)), .int .i64 (mgC b z)]) ∧ Below w.heap.size w w' := by
  have hcy := Lib.hid (fun w => implIsCyclicModule_any F p n b z w hF hb hz)
  have hFH := Lib.hid hF
  have hbH := Lib.hid hb
  have hzH := Lib.hid hz
  have hGH := Lib.hid hG
  clear hF hb hz hG
  obtain ⟨hb, hA, hZ⟩ := boxes2 w (u8s 36 F) (u8s 6 fun _ => 0) 30 28
  go_enter Try.func25, Try.ntmps25
  go_wp2_with ((with_reducible refine wpl_guard ?_); first | (refine wpl_load_arr rfl 30 _ rfl _ rfl _ _ hA _ _ uSquare sSquare ?_) | (refine wpl_alloc_arr rfl 28 rfl _ zRow ?_))
  refine (hcy.out _).mono ?_
  rintro e u1 ⟨rfl, hn⟩
  replace hA := hA.keep hn
  replace hZ := hZ.keep hn
  replace hb := below_step hb hn
  clear hn
  cases b
  · go_wp2_with ((with_reducible refine wpl_guard ?_); first | (refine wpl_build_zero rfl 28 6 5 rfl _ uRow sByte zRow ?_) | (refine wpl_store_arr rfl 28 _ _ rfl _ rfl _ rfl _ _ hZ sRow (by simp only [u8s_size]) (u8s_oneCell _ _) ?_))
    exact bodyPost_ret (res_ct (x := .int .i64 1) rfl rfl (hZ.setRow_same (cs := u8s 6 fun _ => 0)) uRow sRow rfl) rfl ⟨rfl, below_setRow hb (by omega) _⟩
  have hS := hbH.out.2 (by first | rfl | trivial)
  cases z
  · go_wp2_with ((with_reducible refine wpl_guard ?_); first | (refine wpl_build_zero rfl 28 6 5 rfl _ uRow sByte zRow ?_) | (refine wpl_store_arr rfl 28 _ _ rfl _ rfl _ rfl _ _ hZ sRow (by simp only [u8s_size]) (u8s_oneCell _ _) ?_))
    exact bodyPost_ret (res_ct (x := .int .i64 4) rfl rfl (hZ.setRow_same (cs := u8s 6 fun _ => 0)) uRow sRow rfl) rfl ⟨rfl, below_setRow hb (by omega) _⟩
  obtain ⟨N, P, K, hn', hP, hgen, hfv⟩ := hGH.out (by first | rfl | trivial) (by first | rfl | trivial)
  subst hn'
  subst hP
  have hMx := hS.mx hFH.out
  have hn6 := hMx.n6
  have hpr := Lib.hid hMx.pr
  have hp2 := hMx.pr.pos
  have hord := Lib.hid (fun k (hk : k ≤ K) => hgen.order hMx rfl hk)
  have hMxH := Lib.hid hMx
  have hfvH := Lib.hid hfv
  have hN0 : 0 < N := by have := hS.2.1; omega
  have hmt := Lib.hid (fun w => matrix_rows F N w hFH.out hn6)
  obtain ⟨Q, hQ⟩ : ∃ Q, P ^ N = Q := ⟨_, rfl⟩
  have hKQ : K < Q := hQ ▸ hgen.lt
  have hQI : ((P : Int)) ^ N = (Q : Int) := by rw [← hQ]; exact (Int.natCast_pow P N).symm
  have hQ7 : (Q : Int) ≤ 117649 := by
    rw [← hQI]
    have h1 := ipow_le7 hMx.pr N
    have h2 : (7 : Int) ^ N ≤ 7 ^ 6 := ipow_mono (by omega) hn6
    have h3 : (7 : Int) ^ 6 = 117649 := by decide
    omega
  have hno := fun w => norm_any (P : Int) 1099511627776 N w hp2.1 (by rw [hQI]; omega) (by omega) (by omega)
  rw [hQI] at hno
  have hnoH := Lib.hid hno
  clear hno hQI hQ hS hgen hMx hfv hGH hzH hcy hbH
  go_wp2_with ((with_reducible refine wpl_guard ?_); first | (refine wpl_load_arr rfl 30 _ rfl _ rfl _ _ hA _ _ uSquare sSquare ?_) | (refine wpl_alloc_arr rfl 28 rfl _ zRow ?_))
  refine (hmt.out _).mono ?_
  rintro e u2 ⟨vR, rfl, hR, hn⟩
  replace hA := hA.keep hn
  replace hZ := hZ.keep hn
  replace hb := below_step hb hn
  clear hn
  go_wp2_with fail
  refine (hnoH.out _).mono ?_
  rintro e u3 ⟨rfl, rfl⟩
  have hRH := Lib.hid hR
  have hsz2 : w.heap.size + 1 < u2.heap.size := hZ.lt
  clear hR hnoH hmt hA
  go_wp2_with fail
  go_loopw [12, 13, 14, 15, 39] (fun _ _ _ _ kv wr => ∃ k : Nat, k ≤ K ∧ kv = .int .i64 (k : Int) ∧ Hid (IsRows wr vR N (rowsL F)) ∧ w.heap.size + 1 < wr.heap.size ∧ Blk wr (w.heap.size + 1) (u8s 6 fun _ => 0) 28 ∧ Hid (Below w.heap.size w wr)) (fun _ _ _ _ kv _ => K - (intOf kv).toNat)
  case atStart => exact ⟨0, by omega, rfl, hRH, hsz2, hZ, Lib.hid hb⟩
  case round =>
    clear hRH hsz2 hZ hb
    rename World => w0
    obtain ⟨k, hk, rfl, hR, hsz, hZ, hb⟩ := hrel
    obtain ⟨kr, c, hkr, hkK, hRel, hmin⟩ := hord.out k hk
    have hgx := gxs_ok (n := N) (K := k) hpr.out rfl
    have hap := Lib.hid (fun vs vx w (h1 : IsRows w vs N (rowsL F)) (h3 : IsRow w vx (gxs P N k)) => orderOf_any (P : Int) N F (rowsL F) (gxs P N k) vs vx kr c w hMxH.out h1 h3 hgx.1.po hgx.2 hRel hmin)
    have hcl := hRel.len
    have hdg := Lib.hid (fun v w h => degree_any v c w h)
    rw [hcl] at hdg
    have hkKH := Lib.hid hkK
    have hkQ : (k : Int) < (Q : Int) := by omega
    have hgb := Lib.hid (gvec_by (n := N) (K := k) hpr.out rfl)
    clear hgx hRel hmin hkK
    have hV := Blk.new w0 (i64s N fun _ => 0) 2
    have hn := below_new w0 (.cells (i64s N fun _ => 0) 2)
    have hsz0 := hn.size
    replace hZ := hZ.keep hn
    have hn0 := Lib.hid hn
    clear hn
    have hN1 : (N : Int) - 1 = ((N - 1 : Nat) : Int) := by omega
    go_wp2_with (at_make; refine wpl_make_one rfl 55 2 _ _ rfl (.int .i64 0) Try.underlying55 iInt rfl .i64 .i64 _ _ N rfl rfl rfl rfl (by omega) ?_)
    obtain ⟨gV, hgV⟩ : ∃ g, w0.heap.size = g := ⟨_, rfl⟩
    have hgV2 : w0.heap.size ≤ gV := by omega
    have hgs : w.heap.size + 1 < gV := by omega
    rw [hgV] at hV ⊢
    clear hgV hsz0
    go_loopw [14, 15] (fun iv lv wr => ∃ (j l : Nat) (y : Int), Hid (y + j + 1 = N) ∧ -1 ≤ y ∧ y < 6 ∧ j ≤ N ∧ iv = .int .i64 y ∧ lv = .int .i64 (l : Int) ∧ l ≤ 117649 ∧ Hid (l = k / P ^ j) ∧ Blk wr (w.heap.size + 1) (u8s 6 fun _ => 0) 28 ∧ Blk wr gV (i64s N (gtail P N k j)) 2 ∧ Hid (Below w0.heap.size w0 wr)) (fun iv _ _ => ((intOf iv) + 1).toNat)
    case atStart => exact ⟨0, k, ((N - 1 : Nat) : Int), Lib.hid (by omega), by omega, by omega, by omega, rfl, rfl, by omega, Lib.hid (by rw [Nat.pow_zero, Nat.div_one]), hZ, hV.cast (i64s_ext fun i _ => (gtail_zero _ _ _ _).symm), hn0⟩
    case round =>
      clear hZ hV hn0 hN1
      rename World => wq
      obtain ⟨j, l, y, hy, hy0, hy6, hjN, rfl, rfl, hl, hlk, hZ, hV, hz⟩ := hrel
      by_cases hyz : 0 ≤ y
      · obtain ⟨x, rfl⟩ := Int.eq_ofNat_of_zero_le hyz
        have hxN : x < N := by have := hy.out; omega
        have hxNI : (x : Int) < (N : Int) := by omega
        have c1 : wq.cell? ⟨gV, x, none⟩ = some (.int .i64 0) := by
          rw [hV.cell, i64s_get _ hxN]; unfold gtail; rw [if_neg (by have := hy.out; omega)]
        have c2 := hV.free x
        have hyH := Lib.hid (by have := hy.out; omega : x + j + 1 = N)
        have hqe : (l : Int) / (P : Int) = ((l / P : Nat) : Int) := (Int.natCast_ediv l P).symm
        have hme : (l : Int) % (P : Int) = ((l % P : Nat) : Int) := (Int.natCast_emod l P).symm
        have hql : l / P ≤ l := Nat.div_le_self _ _
        have hq0 : 0 ≤ (l : Int) / (P : Int) := by rw [hqe]; exact Int.natCast_nonneg _
        have hq1 : (l : Int) / (P : Int) ≤ 117649 := by rw [hqe]; exact Int.ofNat_le.2 (Nat.le_trans hql hl)
        have hqH := Lib.hid hqe
        have hmH := Lib.hid hme
        clear hy hqe hme
        go_wp2_with fail
        go_roundw
        case rel =>
          refine ⟨j + 1, l / P, (x : Int) - 1, Lib.hid (by have := hyH.out; omega), by omega, by omega, by have := hyH.out; omega, rfl, by rw [hqH.out], Nat.le_trans hql hl, Lib.hid (by rw [hlk.out, Nat.div_div_eq_div_mul, Nat.pow_succ]), hZ.set_other _ _ (by simp only [ne_eq]; omega), ?_, Lib.hid (hz.out.setCell hgV2 _)⟩
          refine (hV.set x _).cast ?_
          rw [i64s_set]; refine i64s_ext fun i hi => ?_
          rw [hmH.out, hlk.out]; exact gtail_step hyH.out hi
        case measure => simp [intOf] <;> omega
      · have hjN2 : j = N := by have := hy.out; omega
        have hV2 := hV.cast (cs' := i64s N (gvec P N k)) (i64s_ext fun i hi => by rw [hjN2]; exact gtail_all hi)
        have hrow := Lib.hid (IsRow_i64s (xs := graw P N k) hV2 (graw_len P N k) (fun i _ => (graw_cf P N k i).symm) (by unfold maxLen; omega))
        have hR2 := Lib.hid (hR.out.below hz.out)
        have hb2 := Lib.hid (below_step hb.out hz.out)
        have hsz2 := hz.out.size
        have htr := Lib.hid (fun w h => trimmed_own (.slice (some ⟨gV, 0, none⟩) N N) (graw P N k) w h)
        rw [graw_trim hn6] at htr
        clear hV hV2 hz hlk hy hR hb
        go_wp2_with fail
        refine (htr.out _ hrow.out).mono ?_
        rintro e u5 ⟨v5, rfl, h5, _, rfl⟩
        have h5H := Lib.hid h5
        clear h5 htr
        go_wp2_with fail
        refine (hap.out _ _ _ hR2.out h5H.out).mono ?_
        rintro e u6 ⟨v6, rfl, h6, hn⟩
        have h6H := Lib.hid h6
        replace hZ := hZ.keep hn
        replace hrow := Lib.hid (hrow.out.below hn)
        replace hR2 := Lib.hid (hR2.out.below hn)
        replace hb2 := Lib.hid (below_step hb2.out hn)
        have hsz3 := hn.size
        clear hn h6 h5H hap
        go_wp2_with fail
        refine (hdg.out _ _ h6H.out).mono ?_
        rintro e u7 ⟨rfl, rfl⟩
        clear h6H hdg
        by_cases hlt : k < K
        · have hkn := hkKH.out.2 hlt
          have hne : ¬ ((kr + 1 : Nat) : Int) - 1 = (N : Int) := by omega
          have hneb : ((((kr + 1 : Nat) : Int) - 1) == (N : Int)) = false := by rw [beq_eq_false_iff_ne]; exact hne
          clear hkKH hkn
          go_wp2_with fail
          go_roundw
          case rel => exact ⟨k + 1, by omega, by go_num, hR2, by omega, hZ, hb2⟩
          case measure => simp [intOf] <;> omega
        · have hkn : kr = N := by have h1 : ¬ kr < N := fun h => hlt (hkKH.out.1 h)
                                  omega
          obtain rfl : k = K := by omega
          subst hkn
          have hneb : ((((kr + 1 : Nat) : Int) - 1) == (kr : Int)) = true := by rw [beq_iff_eq]; omega
          have has := Lib.hid (asRow_any (.slice (some ⟨gV, 0, none⟩) kr kr) (graw P kr k) u6 hrow.out (fun i => by rw [graw_cf]; have := gvec_by (n := kr) (K := k) hpr.out rfl i; omega) (by rw [graw_len]; exact hn6))
          have hfe : u8s 6 (cf (graw P kr k)) = u8s 6 (gvec P kr k) := u8s_ext fun i _ => graw_cf _ _ _ _
          rw [hfe] at has
          clear hkKH hfe
          go_wp2_with fail
          refine has.out.mono ?_
          rintro e u8 ⟨rfl, hn⟩
          replace hZ := hZ.keep hn
          have hb := below_step hb2.out hn
          clear hn
          go_wp2_with ((with_reducible refine wpl_guard ?_); first | (refine wpl_store_arr rfl 28 _ _ rfl _ rfl _ rfl _ _ hZ sRow (by simp only [u8s_size]) (u8s_oneCell _ _) ?_))
          exact bodyPost_ret (res_ct (x := .int .i64 0) rfl rfl (hZ.setRow_same (cs := u8s 6 (gvec P kr k))) uRow sRow rfl) rfl ⟨by rw [hfvH.out]; rfl, below_setRow hb (by omega) _⟩
theorem ModuleGenerator_pair (p n : Int) (F : Nat → Int) (_ : (Lit.int .i64 p).wf = true) (_ : (Lit.int .i64 n).wf = true) (hF : By F) : ∃ (r0 : Nat → Int) (r1 : Int),
    (∀ w, Calls Try.prog 24 #[.int .i64 p, .int .i64 n, .agg (u8s 36 F)] w fun e w' => e = .returned (.tuple #[.agg (u8s 6 r0), .int .i64 r1]) ∧ Below w.heap.size w w') ∧
    (∀ w, Calls Try.prog 25 #[.int .i64 p, .int .i64 n, .agg (u8s 36 F)] w fun e w' => e = .returned (.tuple #[.agg (u8s 6 r0), .int .i64 r1]) ∧ Below w.heap.size w w') := by
  obtain ⟨b, hb⟩ := dec_true (SqOk p n F)
  obtain ⟨z, f, hz, hG⟩ : ∃ (z : Bool) (f : Nat → Int), (b = true → ∃ N k M, Fac p n F N M ∧ k ≤ N ∧ (∀ i, i < N → ((monic p (M i i)).length ≤ 1 ↔ i < k)) ∧ (N - k = 1 ↔ z = true)) ∧ (b = true → z = true → ∃ N P K : Nat, n = (N : Int) ∧ p = (P : Int) ∧ Gen p P N F K ∧ f = gvec P N K) := by
    cases b
    · exact ⟨false, fun _ => 0, fun h => Bool.noConfusion h, fun h => Bool.noConfusion h⟩
    · have hS := hb.2 rfl
      obtain ⟨N, M, h⟩ := fac_ok hF hS
      obtain ⟨k, hk, hc⟩ := h.cut
      obtain ⟨z, hz⟩ := dec_true (N - k = 1)
      cases z
      · exact ⟨false, fun _ => 0, fun _ => ⟨N, k, M, h, hk, hc, hz⟩, fun _ h => Bool.noConfusion h⟩
      · obtain ⟨xs, hx, hl, hr⟩ := h.cyclic hS hc (hz.2 rfl)
        have hp2 := h.pr.pos
        obtain ⟨P, hP⟩ := Int.eq_ofNat_of_zero_le (show 0 ≤ p by omega)
        obtain ⟨K, hK⟩ := Gen.of_vec h.pr hP h.le hx hl hr
        exact ⟨true, gvec P N K, fun _ => ⟨N, k, M, h, hk, hc, hz⟩, fun _ _ => ⟨N, P, K, h.hn, hP, hK, rfl⟩⟩
  exact ⟨_, _, fun w => specModuleGenerator_any F f p n b z w hF hb hz hG, fun w => implModuleGenerator_any F f p n b z w hF hb hz hG⟩
end Go.Proofs.Ytnkkkgaojhkniab
