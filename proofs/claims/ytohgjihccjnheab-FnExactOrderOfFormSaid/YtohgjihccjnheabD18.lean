/- Walks: OrderOfForm. -/
import Derived.Test.YtohgjihccjnheabD17
set_option linter.unusedVariables false
set_option linter.unusedSimpArgs false
namespace Go.Proofs.Ytohgjihccjnheab
open Go.RowKit

set_option maxRecDepth 20000 in
set_option maxHeartbeats 2000000 in
theorem orderOfF_any (vd va vb : Value) (p : Int) (ds xs ys : List Int) (K : Nat) (w : World) (hd : IsRow w vd ds) (ha : IsRow w va xs) (hbb : IsRow w vb ys) (hO : Ord p ds xs ys K) :
    Calls Try.prog 15 #[.agg #[.int .i64 p, vd], .agg #[va, vb]] w fun e w' => e = .returned (.int .i64 ((K : Int) + 1)) ∧ Below w.heap.size w w' := by
  have hOH := Lib.hid hO
  obtain ⟨qb, qC, qF⟩ := boxes2 w #[.int .i64 p, vd] #[va, vb] 42 46
  have qw := Lib.hid (RwF.below (RwF.mk hd ha hbb) qb)
  have hsva := ha.slice'
  have hsvb := hbb.slice'
  clear hO hd ha hbb
  go_enter Try.func15, Try.ntmps15
  go_wp2_with ((with_reducible refine wpl_guard ?_); first | (refine wpl_load_str rfl 46 _ rfl _ rfl _ _ qF tform sform ?_) | (refine wpl_alloc_arr rfl 46 rfl _ zform ?_) | (refine wpl_store_new rfl 46 _ _ rfl _ rfl rfl _ rfl sform rfl (all_two (one_slice hsva) (one_slice hsvb)) ?_))
  have qX := Blk.newAt (w := ((w.alloc (.cells #[.int .i64 p, vd] 42)).alloc (.cells #[va, vb] 46))) (n := w.heap.size + 1 + 1) (by simp) #[va, vb] 46
  replace qC := qC.alloc (.cells #[va, vb] 46)
  replace qF := qF.alloc (.cells #[va, vb] 46)
  replace qw := Lib.hid (qw.out.below (below_new _ (.cells #[va, vb] 46)))
  replace qb := below_step qb (below_new _ (.cells #[va, vb] 46))
  generalize ((w.alloc (.cells #[.int .i64 p, vd] 42)).alloc (.cells #[va, vb] 46)).alloc (.cells #[va, vb] 46) = v0 at *
  try simp only [Act.put, List.setIfInBounds_toArray, List.set_cons_zero, List.set_cons_succ]
  go_loopw [5, 6] (fun kk vx wr => ∃ (j : Nat) (o1 o2 : List Int) (vo1 vo2 : Value) (gx : Nat), j ≤ K ∧ kk = .int .i64 ((j : Int) + 1) ∧ vx = .pointer (some ⟨gx, 0, none⟩) ∧ w.heap.size + 1 < gx ∧ Hid (orb p ds (xs, ys) (j + 1) = (o1, o2)) ∧ Hid (RwF wr vd va vb ds xs ys) ∧ Hid (RwF wr vd vo1 vo2 ds o1 o2) ∧ Blk wr w.heap.size #[.int .i64 p, vd] 42 ∧ Blk wr (w.heap.size + 1) #[va, vb] 46 ∧ Blk wr gx #[vo1, vo2] 46 ∧ Below w.heap.size w wr) (fun kk _ _ => (K + 2 - (intOf kk).toNat))
  case atStart => exact ⟨0, xs, ys, va, vb, w.heap.size + 1 + 1, by omega, rfl, (by first | rfl | simp [size_alloc]), by omega, Lib.hid hOH.out.one, qw, qw, qC, qF, qX, qb⟩
  case round =>
    clear qC qF qX qb qw
    obtain ⟨j, o1, o2, vo1, vo2, gx, hj, rfl, rfl, hgx, hS, qw, qo, qC, qF, qX, qb⟩ := hrel
    have hro := orb_Rdd hOH.out.rd (j + 1)
    rw [hS.out] at hro
    have hjK := hOH.out.le
    have hso1 := qo.out.a.slice'
    have hso2 := qo.out.b.slice'
    have c0 := qX.two0
    have honly : o1 = [1] → o2 = [] := fun e => by
      have h : o2.length < o1.length := hro.1.frm.2.2.1
      rw [e] at h
      exact List.length_eq_zero_iff.1 (by simpa using h)
    by_cases h0 : j = K
    · subst h0
      have hL := hS.out.symm.trans hOH.out.last
      injection hL with e1 e2
      have i1 := Lib.hid (fun v w (h : IsRow w v o1) => isOne_any v o1 w h true (decide_eq_true e1))
      clear honly hro e1 e2 hS
      go_wp2_with fail
      refine (i1.out _ _ qo.out.a).mono ?_
      rintro e z1 ⟨rfl, rfl⟩
      go_wp2_with fail
      go_ret
      exact ⟨rfl, qb⟩
    · have hne := hOH.out.first j (by omega)
      rw [hS.out] at hne
      have i1 := Lib.hid (fun v w (h : IsRow w v o1) => isOne_any v o1 w h false (decide_eq_false (fun e => hne (by rw [e, honly e]))))
      have hnx : orb p ds (xs, ys) (j + 1 + 1) = cpr p ds (o1, o2) (xs, ys) := by show cpr p ds (orb p ds (xs, ys) (j + 1)) (xs, ys) = _; rw [hS.out]
      have kc := fun va vb va2 vb2 w (h : RwF w vd va vb ds o1 o2) (h2 : RwF w vd va2 vb2 ds xs ys) => composeF_any vd va vb va2 vb2 p ds o1 o2 xs ys w h.d h.a h.b h2.a h2.b hro hOH.out.rd
      obtain ⟨m1, m2, hmm⟩ := pair_of (cpr p ds (o1, o2) (xs, ys))
      rw [hmm] at kc hnx
      have kcH := Lib.hid kc
      have hnxH := Lib.hid hnx
      clear honly hne kc hmm hnx hro hS
      go_wp2_with fail
      refine (i1.out _ _ qo.out.a).mono ?_
      rintro e z1 ⟨rfl, rfl⟩
      clear c0
      go_upto_region 4 with ((with_reducible refine wpl_guard ?_); first | (refine wpl_load_str rfl 46 _ rfl _ rfl _ _ qX tform sform ?_) | (refine wpl_alloc_arr rfl 46 rfl _ zform ?_) | (refine wpl_store_new rfl 46 _ _ rfl _ rfl rfl _ rfl sform rfl (all_two (one_slice hso1) (one_slice hso2)) ?_))
      have hg2 := qF.lt
      have qN := Blk.newAt (w := wr) (n := wr.heap.size) rfl #[vo1, vo2] 46
      replace qC := qC.alloc (.cells #[vo1, vo2] 46)
      replace qF := qF.alloc (.cells #[vo1, vo2] 46)
      replace qw := Lib.hid (qw.out.below (below_new _ (.cells #[vo1, vo2] 46)))
      replace qo := Lib.hid (qo.out.below (below_new _ (.cells #[vo1, vo2] 46)))
      replace qb := below_step qb (below_new _ (.cells #[vo1, vo2] 46))
      clear qX
      generalize hgg : wr.heap.size = g2 at qN hg2
      generalize wr.alloc (.cells #[vo1, vo2] 46) = v3 at *
      try rw [hgg]
      clear hgg
      go_wp2_with ((with_reducible refine wpl_guard ?_); first | (refine wpl_load_str rfl 42 _ rfl _ rfl _ _ qC tcurve scurve ?_) | (refine wpl_load_str rfl 46 _ rfl _ rfl _ _ qN tform sform ?_) | (refine wpl_load_str rfl 46 _ rfl _ rfl _ _ qF tform sform ?_))
      refine (kcH.out _ _ _ _ _ qo.out qw.out).mono ?_
      rintro e u1 ⟨n1, n2, rfl, h1, h2, hn⟩
      replace qw := Lib.hid (qw.out.below hn)
      have qn : Hid (RwF u1 vd n1 n2 ds m1 m2) := Lib.hid ⟨qw.out.d, h1, h2⟩
      have hsn1 := h1.slice'
      have hsn2 := h2.slice'
      replace qC := qC.keep hn
      replace qF := qF.keep hn
      replace qN := qN.keep hn
      replace qb := below_step qb hn
      clear h1 h2 hn qo
      go_wp2_with ((with_reducible refine wpl_guard ?_); first | (refine wpl_store_arr rfl 46 _ _ rfl _ rfl _ rfl _ _ qN sform rfl (all_two (one_slice hsn1) (one_slice hsn2)) ?_))
      replace qw := Lib.hid (qw.out.setRow qN hso1 hso2 #[n1, n2])
      replace qn := Lib.hid (qn.out.setRow qN hso1 hso2 #[n1, n2])
      have qN2 := qN.setRow_same (cs := #[n1, n2])
      replace qC := qC.setRow_other (g := g2) (cs := #[n1, n2]) (by omega)
      replace qF := qF.setRow_other (g := g2) (cs := #[n1, n2]) (by omega)
      replace qb := below_setRow qb (g := g2) (by omega) #[n1, n2]
      generalize World.setRow _ g2 #[n1, n2] = v4 at *
      try simp only [Act.put, List.setIfInBounds_toArray, List.set_cons_zero, List.set_cons_succ]
      go_roundw
      case rel => exact ⟨j + 1, m1, m2, n1, n2, g2, by omega, by first | go_num | (congr 1; omega), rfl, by omega, hnxH, qw, qn, qC, qF, qN2, qb⟩
      case measure => simp only [intOf]; omega

/-- The powers come to the unit. -/
theorem orb_end_le {p : Int} {ds : List Int} (S : Sf p ds) (h2 : p ≠ 2) {f : List Int × List Int} (hf : Rdd p ds f) : ∃ k, k ≤ 1000000 ∧ orb p ds f (k + 1) = ([1], []) := by
  have hp2 := hf.1.pr.pos
  obtain ⟨N, hN⟩ : ∃ N : Nat, (N : Int) = p ^ 3 := ⟨(p ^ 3).toNat, Int.toNat_of_nonneg (by have := Int.pow_pos (n := p) (m := 3) (by omega); omega)⟩
  have hx : ∀ i, ∃ a b : Nat, (a : Int) = num p (orb p ds f i).1 ∧ (b : Int) = num p (orb p ds f i).2 ∧ a < N ∧ b < N := fun i => by
    have h := orb_Rdd hf i
    have l1 := num_lt hp2.1 _ 3 h.1.xP.md h.len.1
    have l2 := num_lt hp2.1 _ 3 h.1.yP.md h.len.2
    exact ⟨(num p (orb p ds f i).1).toNat, (num p (orb p ds f i).2).toNat, by omega, by omega, by omega, by omega⟩
  let A : Nat → Nat := fun i => (num p (orb p ds f i).1).toNat
  let B : Nat → Nat := fun i => (num p (orb p ds f i).2).toNat
  have hA : ∀ i, (A i : Int) = num p (orb p ds f i).1 ∧ (B i : Int) = num p (orb p ds f i).2 ∧ A i < N ∧ B i < N := fun i => by
    obtain ⟨a, b, h1, h2, h3, h4⟩ := hx i
    refine ⟨?_, ?_, ?_, ?_⟩ <;> simp only [A, B] <;> omega
  obtain ⟨i, j, hij, hjN, e⟩ := pigeon (N * N) (fun i => A i * N + B i) (fun i _ => by
    obtain ⟨_, _, h3, h4⟩ := hA i
    have : (A i + 1) * N ≤ N * N := Nat.mul_le_mul_right N h3
    rw [Nat.add_mul] at this
    show A i * N + B i < N * N
    omega)
  have e' : A i * N + B i = A j * N + B j := e
  obtain ⟨a1, b1, a2, b2⟩ := hA i
  obtain ⟨a3, b3, a4, b4⟩ := hA j
  have hN0 : 0 < N := by omega
  have eA : A i = A j := by
    have h1 : (A i * N + B i) / N = A i := by rw [Nat.add_comm, Nat.add_mul_div_right _ _ hN0, Nat.div_eq_of_lt b2, Nat.zero_add]
    have h2 : (A j * N + B j) / N = A j := by rw [Nat.add_comm, Nat.add_mul_div_right _ _ hN0, Nat.div_eq_of_lt b4, Nat.zero_add]
    rw [← h1, ← h2, e']
  have eB : B i = B j := by rw [eA] at e'; omega
  have e1 : (orb p ds f i).1 = (orb p ds f j).1 := (orb_Rdd hf i).1.xP.ext (orb_Rdd hf j).1.xP (num_inj hp2.1 _ _ (orb_Rdd hf i).1.xP.md (orb_Rdd hf j).1.xP.md (by rw [← a1, ← a3, eA]))
  have e2 : (orb p ds f i).2 = (orb p ds f j).2 := (orb_Rdd hf i).1.yP.ext (orb_Rdd hf j).1.yP (num_inj hp2.1 _ _ (orb_Rdd hf i).1.yP.md (orb_Rdd hf j).1.yP.md (by rw [← b1, ← b3, eB]))
  have e3 : orb p ds f i = orb p ds f (i + (j - i)) := by rw [show i + (j - i) = j by omega]; exact Prod.ext e1 e2
  have := orb_back S h2 hf i (j - i) e3
  have hp7 : p ^ 3 ≤ 343 := by
    rcases hf.1.pr with rfl | rfl | rfl | rfl <;> decide
  have hNN : N * N ≤ 343 * 343 := Nat.mul_le_mul (by omega) (by omega)
  exact ⟨j - i - 1, by omega, by rw [show j - i - 1 + 1 = j - i by omega]; exact this⟩
theorem least_of (Pp : Nat → Prop) : ∀ n, Pp n → ∃ K, K ≤ n ∧ Pp K ∧ ∀ j, j < K → ¬ Pp j
  | 0, h => ⟨0, Nat.le_refl _, h, fun j hj => absurd hj (by omega)⟩
  | n + 1, h => by
    by_cases h1 : ∃ m, m ≤ n ∧ Pp m
    · obtain ⟨m, hm, hP⟩ := h1
      have := Nat.strongRecOn (motive := fun m => Pp m → ∃ K, K ≤ m ∧ Pp K ∧ ∀ j, j < K → ¬ Pp j) m (fun m ih hP => by
        by_cases h2 : ∃ q, q < m ∧ Pp q
        · obtain ⟨q, hq, hQ⟩ := h2
          obtain ⟨K, a, b, c⟩ := ih q hq hQ
          exact ⟨K, by omega, b, c⟩
        · exact ⟨m, Nat.le_refl _, hP, fun j hj hj2 => h2 ⟨j, hj, hj2⟩⟩) hP
      obtain ⟨K, a, b, c⟩ := this
      exact ⟨K, by omega, b, c⟩
    · exact ⟨n + 1, Nat.le_refl _, h, fun j hj hj2 => h1 ⟨j, by omega, hj2⟩⟩
theorem Disc.sf {p : Int} {d : Nat → Int} (h : Disc p d) (hd : By d) : Sf p (mkp 64 d) := by
  have hx := h.d64 hd
  have hp2 := hx.pr.pos
  have hne : mkp 64 d ≠ [] := fun e => by have := h.2.1; rw [e] at this; simp at this
  have hy := (derF_P64 hx.pr d).1
  have h1 := (dgc_one hx.pr hx hne).1
  rw [h.2.2] at h1
  have hb := bez_ok hx.pr hx.po hy.po (.inl hne)
  rw [← h1] at hb
  have hid := hb.id
  rw [cf_one] at hid
  refine ⟨_, _, Fn.cf _, Fn.cf _, hid.trans (Eqp.add (Eqp.refl _) (Eqp.mul (Eqp.refl _) fun n => ?_))⟩
  show cf (mkp 64 (derF p d)) n % p = (((n : Int) + 1) * cf (mkp 64 d) (n + 1)) % p
  rw [mkp_cf, mkp_cf]
  by_cases hn : n < 64
  · rw [if_pos hn]
    unfold derF
    by_cases h63 : n < 63
    · rw [if_pos h63, if_pos (by omega), Int.emod_emod_of_dvd _ (Int.dvd_refl p)]
    · rw [if_neg h63, if_neg (by omega), Int.mul_zero]
  · rw [if_neg hn, if_neg (by omega), Int.mul_zero]
theorem Ord_of {p : Int} {ds xs ys : List Int} (S : Sf p ds) (h2 : p ≠ 2) (h : Rdd p ds (xs, ys)) : ∃ K, Ord p ds xs ys K := by
  obtain ⟨k, hk, he⟩ := orb_end_le S h2 h
  obtain ⟨K, a, b, c⟩ := least_of (fun k => orb p ds (xs, ys) (k + 1) = ([1], [])) k he
  exact ⟨K, h, orb_one S h2 h, b, c, by omega⟩
def ordC (b : Bool) (K : Nat) : Int := if b then (K : Int) + 1 else 0

set_option maxRecDepth 20000 in
set_option maxHeartbeats 2000000 in
theorem specOrderOfForm_any (d f g : Nat → Int) (p : Int) (b1 bf br : Bool) (T1 T2 : Nat → Bool) (K : Nat) (w : World) (hO : b1 = true → bf = true → br = true → Ord p (mkp 64 d) (mkp 64 f) (mkp 64 g) K) (hf : By f) (hg : By g) (hT : FrmT p d (formsF [fmF f g]) 1 b1 bf br T1 T2) :
    Calls Try.prog 5 #[.int .i64 p, .agg (u8s 64 d), .agg (u8s 128 (fmF f g))] w fun e w' => e = .returned (.tuple #[.int .i64 (ordC (b1 && bf && br) K), .int .i64 (codeF b1 bf true true br)]) ∧ Below w.heap.size w w' := by
  have hOH := Lib.hid hO
  have hfH := Lib.hid (And.intro hf hg)
  have hTH := Lib.hid hT
  clear hO hf hg hT
  obtain ⟨hb, hA, hB⟩ := boxes2 w (u8s 64 d) (u8s 128 (fmF f g)) 27 30
  go_enter Try.func5, Try.ntmps5
  go_wp2_with ((with_reducible refine wpl_guard ?_); first | (refine wpl_load_arr rfl 27 _ rfl _ rfl _ _ hA _ _ uPoly sPoly ?_) | (refine wpl_load_str rfl 30 _ rfl _ rfl _ _ hB tForm sForm ?_) | (refine wpl_buildSlice_forms rfl 55 30 1 _ rfl Try.underlying55 sForm zForm [fmF f g] rfl (by decide) (by decide) rfl ?_))
  refine (l07Code_any d (formsF [fmF f g]) p 1 _ b1 bf br true T1 T2 _ (by omega) hTH.out (Blk.newAt (by simp) _ _)).mono ?_
  rintro e u0 ⟨rfl, hn⟩
  replace hA := (hA.alloc _).keep hn
  replace hB := (hB.alloc _).keep hn
  replace hb := below_step hb (below_step (below_new _ _) hn)
  clear hn
  cases b1
  · rw [codeF_no1]
    go_wp2_with fail
    go_ret2
    exact ⟨rfl, hb⟩
  cases bf
  · rw [codeF_no2]
    go_wp2_with fail
    go_ret2
    exact ⟨rfl, hb⟩
  cases br
  · rw [codeF_red]
    go_wp2_with fail
    go_ret2
    exact ⟨rfl, hb⟩
  rw [codeF_ok2]
  have hO := hOH.out (by first | rfl | trivial) (by first | rfl | trivial) (by first | rfl | trivial)
  have he : ordC (true && true && true) K = (K : Int) + 1 := rfl
  have heH := Lib.hid he
  have k1 := fun w => l07Order_any p (mkp 64 d) (mkp 64 f) (mkp 64 g) K w hO
  rw [← u8s_mkp, fm_mkp2] at k1
  have k1H := Lib.hid k1
  clear hO he k1 hOH
  go_wp2_with ((with_reducible refine wpl_guard ?_); first | (refine wpl_load_arr rfl 27 _ rfl _ rfl _ _ hA _ _ uPoly sPoly ?_) | (refine wpl_load_str rfl 30 _ rfl _ rfl _ _ hB tForm sForm ?_))
  refine (k1H.out _).mono ?_
  rintro e u1 ⟨rfl, hn⟩
  replace hA := hA.keep hn
  replace hB := hB.keep hn
  replace hb := below_step hb hn
  clear hn
  go_wp2_with fail
  go_ret2
  exact ⟨by rw [heH.out]; rfl, hb⟩

set_option maxRecDepth 20000 in
set_option maxHeartbeats 2000000 in
theorem implOrderOfForm_any (d f g : Nat → Int) (p : Int) (b1 bf br : Bool) (T1 T2 : Nat → Bool) (K : Nat) (w : World) (hO : b1 = true → bf = true → br = true → Ord p (mkp 64 d) (mkp 64 f) (mkp 64 g) K) (hf : By f) (hg : By g) (hT : FrmT p d (formsF [fmF f g]) 1 b1 bf br T1 T2) :
    Calls Try.prog 8 #[.int .i64 p, .agg (u8s 64 d), .agg (u8s 128 (fmF f g))] w fun e w' => e = .returned (.tuple #[.int .i64 (ordC (b1 && bf && br) K), .int .i64 (codeF b1 bf true true br)]) ∧ Below w.heap.size w w' := by
  have hOH := Lib.hid hO
  have hfH := Lib.hid (And.intro hf hg)
  have hTH := Lib.hid hT
  clear hO hf hg hT
  obtain ⟨hb, hA, hB⟩ := boxes2 w (u8s 64 d) (u8s 128 (fmF f g)) 27 30
  go_enter Try.func8, Try.ntmps8
  go_wp2_with ((with_reducible refine wpl_guard ?_); first | (refine wpl_load_arr rfl 27 _ rfl _ rfl _ _ hA _ _ uPoly sPoly ?_) | (refine wpl_load_str rfl 30 _ rfl _ rfl _ _ hB tForm sForm ?_) | (refine wpl_buildSlice_forms rfl 55 30 1 _ rfl Try.underlying55 sForm zForm [fmF f g] rfl (by decide) (by decide) rfl ?_))
  refine (formCode_any d (formsF [fmF f g]) p 1 _ 30 b1 bf br true true T1 T2 _ (by omega) hTH.out (Blk.newAt (by simp) _ _)).mono ?_
  rintro e u0 ⟨rfl, hn⟩
  replace hA := (hA.alloc _).keep hn
  replace hB := (hB.alloc _).keep hn
  replace hb := below_step hb (below_step (below_new _ _) hn)
  clear hn
  cases b1
  · rw [codeF_no1]
    go_wp2_with fail
    go_ret2
    exact ⟨rfl, hb⟩
  cases bf
  · rw [codeF_no2]
    go_wp2_with fail
    go_ret2
    exact ⟨rfl, hb⟩
  cases br
  · rw [codeF_red]
    go_wp2_with fail
    go_ret2
    exact ⟨rfl, hb⟩
  rw [codeF_ok2]
  have hO := hOH.out (by first | rfl | trivial) (by first | rfl | trivial) (by first | rfl | trivial)
  have he : ordC (true && true && true) K = (K : Int) + 1 := rfl
  have heH := Lib.hid he
  have k1 := fun w => curveOf_any p d w hTH.out.hd
  have k2 := fun w => formOf_any f g w hfH.out.1 hfH.out.2
  have k3 := fun vd va vb w (h0 : IsRow w vd (mkp 64 d)) (h1 : IsRow w va (mkp 64 f)) (h2 : IsRow w vb (mkp 64 g)) => orderOfF_any vd va vb p _ _ _ K w h0 h1 h2 hO
  obtain ⟨ds, hds⟩ : ∃ ds, mkp 64 d = ds := ⟨_, rfl⟩
  rw [hds] at k1 k3
  have k1H := Lib.hid k1
  have k2H := Lib.hid k2
  have k3H := Lib.hid k3
  clear hO he k1 k2 k3 hds hOH
  go_wp2_with fail
  go_upto_region 4 with (fail)
  refine gen_region (ws := w) (w := _) (B := w.heap.size) (by kernel_rfl) (by kernel_rfl) (by kernel_rfl) (by kernel_rfl)
      (fun i => ([fun zv _ => zv = .int .i64 p, fun zv _ => zv = .agg (u8s 64 d), fun v w => ∃ vd, v = .agg #[.int .i64 p, vd] ∧ IsRow w vd ds, fun zv _ => zv = .agg (u8s 128 (fmF f g)), fun v w => ∃ va vb, v = .agg #[va, vb] ∧ IsRow w va (mkp 64 f) ∧ IsRow w vb (mkp 64 g), fun zv _ => zv = .int .i64 ((K : Int) + 1), fun zv _ => zv = .int .i64 ((K : Int) + 1), fun zv _ => zv = .int .i64 0] : List (Value → World → Prop)).getD i (fun _ _ => True))
      (fun i => ([true, true, false, false, false, false, true, true] : List Bool).getD i true)
      0 (fun zk => [].getD zk 0) (fun zk => [].getD zk 0) (fun zk => [].getD zk 0) (fun zk => [].getD zk 0) (fun zk => [].getD zk 0) (fun zk => [].getD zk 0) (fun zk => [].getD zk (fun _ => 0)) (fun zk => [].getD zk (fun _ => 0)) (fun zk => [].getD zk 0) hb (Nat.le_refl _)
      (fun w' => Blk w' (w.heap.size) (u8s 64 d) 27 ∧ Blk w' (w.heap.size + 1) (u8s 128 (fmF f g)) 30 ∧ True) ⟨hA.drew, hB.drew, trivial⟩ (fun w1 w2 h hb => ⟨h.1.keep hb, h.2.1.keep hb, trivial⟩) ?_ ?_ ?_ ?_ ?_ ?_ ?_
  · exact fun k hk => absurd hk (by omega)
  · intro i v w1 w2 h hb
    rcases i with _|_|_|_|_|_|_|_|i
    · exact h
    · exact h
    · obtain ⟨vd, e, h1⟩ := h; exact ⟨vd, e, h1.below hb⟩
    · exact h
    · obtain ⟨va, vb, e, h1, h2⟩ := h; exact ⟨va, vb, e, h1.below hb, h2.below hb⟩
    · exact h
    · exact h
    · exact h
    · exact h
  · exact fun k hk => absurd hk (by omega)
  · exact fun k hk => absurd hk (by omega)
  · kernel_rfl
  · intro i o ho hz a w2 hBs hSx hBl hrd hpar
    rcases i with _|_|_|_|_|_|_|_|i
    · obtain rfl := Option.some.inj ho
      have e0 : a.eval (.tmp 0) = .int .i64 p := hpar 0 _ (by kernel_rfl) (by kernel_rfl)
      exact wpv_of (wp_move _ _ rfl e0) (fun _ _ => rfl)
    · obtain rfl := Option.some.inj ho
      exact wpv_of (wp_loadB 27 _ rfl _ (hpar 4 (.pointer (some ⟨w.heap.size, 0, none⟩)) (by kernel_rfl) (by kernel_rfl)) _ _ hSx.1 _ _ uPoly sPoly) (fun _ _ => rfl)
    · obtain rfl := Option.some.inj ho
      obtain ⟨_, e17⟩ : ∃ _w : World, a.eval (.tmp 17) = .int .i64 p := (hrd 0 _ 17 rfl rfl (by kernel_rfl) (by kernel_rfl) (by decide)).1
      obtain ⟨_, e18⟩ : ∃ _w : World, a.eval (.tmp 18) = .agg (u8s 64 d) := (hrd 1 _ 18 rfl rfl (by kernel_rfl) (by kernel_rfl) (by decide)).1
      exact wpv_call 14 [.tmp 17, .tmp 18] _ rfl [.int .i64 p, .agg (u8s 64 d)] (by simp only [List.map_cons, List.map_nil, e17, e18]) Try.call14 ((k1H.out w2).mono fun _ _ ⟨vd, h1, h2, h3⟩ => ⟨_, h1, ⟨vd, rfl, h2⟩, h3⟩)
    · obtain rfl := Option.some.inj ho
      exact wpv_of (wp_loadS 30 _ rfl _ (hpar 5 (.pointer (some ⟨w.heap.size + 1, 0, none⟩)) (by kernel_rfl) (by kernel_rfl)) _ _ hSx.2.1 tForm sForm) (fun _ _ => rfl)
    · obtain rfl := Option.some.inj ho
      obtain ⟨_, e20⟩ : ∃ _w : World, a.eval (.tmp 20) = .agg (u8s 128 (fmF f g)) := (hrd 3 _ 20 rfl rfl (by kernel_rfl) (by kernel_rfl) (by decide)).1
      exact wpv_call 16 [.tmp 20] _ rfl [.agg (u8s 128 (fmF f g))] (by simp only [List.map_cons, List.map_nil, e20]) Try.call16 ((k2H.out w2).mono fun _ _ ⟨va, vb, h1, h2, h3, h4⟩ => ⟨_, h1, ⟨va, vb, rfl, h2, h3⟩, h4⟩)
    · obtain rfl := Option.some.inj ho
      have h19 : (fun v w => ∃ vd, v = .agg #[.int .i64 p, vd] ∧ IsRow w vd ds) (a.eval (.tmp 19)) w2 := (hrd 2 _ 19 rfl rfl (by kernel_rfl) (by kernel_rfl) (by decide)).2 rfl
      generalize e19 : a.eval (.tmp 19) = v19 at h19
      have h21 : (fun v w => ∃ va vb, v = .agg #[va, vb] ∧ IsRow w va (mkp 64 f) ∧ IsRow w vb (mkp 64 g)) (a.eval (.tmp 21)) w2 := (hrd 4 _ 21 rfl rfl (by kernel_rfl) (by kernel_rfl) (by decide)).2 rfl
      generalize e21 : a.eval (.tmp 21) = v21 at h21
      exact wpv_call 15 [.tmp 19, .tmp 21] _ rfl [v19, v21] (by simp only [List.map_cons, List.map_nil, e19, e21]) Try.call15 (by obtain ⟨vd, rfl, hr1⟩ := h19; obtain ⟨va, vb, rfl, hr2, hr3⟩ := h21; exact (k3H.out _ _ _ w2 hr1 hr2 hr3).mono fun _ _ ⟨h1, h2⟩ => ⟨_, h1, rfl, h2⟩)
    · obtain rfl := Option.some.inj ho
      obtain ⟨_, e22⟩ : ∃ _w : World, a.eval (.tmp 22) = .int .i64 ((K : Int) + 1) := (hrd 5 _ 22 rfl rfl (by kernel_rfl) (by kernel_rfl) (by decide)).1
      exact wpv_of (wp_assign _ _ rfl e22) (fun _ _ => rfl)
    · obtain rfl := Option.some.inj ho
      exact wpv_of (wp_assign _ (.int .i64 0) rfl rfl) (fun _ _ => rfl)
    · simp at ho
  intro vals xE hBx hSx hS0 hcs hrs
  obtain ⟨hBl, hc0⟩ := hS0 rfl
  have e0 : vals 0 = .int .i64 p := hc0 0 (by simp)
  have e1 : vals 1 = .agg (u8s 64 d) := hc0 1 (by simp)
  have cE2 : (fun v w => ∃ vd, v = .agg #[.int .i64 p, vd] ∧ IsRow w vd ds) (vals 2) xE := hc0 2 (by simp)
  generalize ev2 : vals 2 = uE2 at cE2
  have e3 : vals 3 = .agg (u8s 128 (fmF f g)) := hc0 3 (by simp)
  have cE4 : (fun v w => ∃ va vb, v = .agg #[va, vb] ∧ IsRow w va (mkp 64 f) ∧ IsRow w vb (mkp 64 g)) (vals 4) xE := hc0 4 (by simp)
  generalize ev4 : vals 4 = uE4 at cE4
  have e5 : vals 5 = .int .i64 ((K : Int) + 1) := hc0 5 (by simp)
  have e6 : vals 6 = .int .i64 ((K : Int) + 1) := hc0 6 (by simp)
  have e7 : vals 7 = .int .i64 0 := hc0 7 (by simp)
  simp only [List.length_cons, List.length_nil, Nat.zero_add, Nat.reduceAdd, List.replicate, putAll, if_true, Act.put, List.setIfInBounds_toArray, List.set_cons_zero, List.set_cons_succ, e0, e1, ev2, e3, ev4, e5, e6, e7]
  replace hA := hSx.1
  replace hB := hSx.2.1
  clear hcs hrs hS0 hSx e0 e1 ev2 e3 ev4 e5 e6 e7 hc0
  go_wp2_with fail
  go_ret2
  exact ⟨by rw [heH.out]; rfl, hBx⟩

theorem OrderOfForm_pair (p : Int) (d F : Nat → Int) (_ : (Lit.int .i64 p).wf = true) (hd : By d) (hF : By F) : ∃ (r0 : Int) (r1 : Int),
    (∀ w, Calls Try.prog 5 #[.int .i64 p, .agg (u8s 64 d), .agg (u8s 128 F)] w fun e w' => e = .returned (.tuple #[.int .i64 r0, .int .i64 r1]) ∧ Below w.heap.size w w') ∧
    (∀ w, Calls Try.prog 8 #[.int .i64 p, .agg (u8s 64 d), .agg (u8s 128 F)] w fun e w' => e = .returned (.tuple #[.int .i64 r0, .int .i64 r1]) ∧ Below w.heap.size w w') := by
  obtain ⟨b1, bf, br, T1, T2, hT, h1, h2⟩ := frmT_lit p d [(F, fun j => F (64 + j))] hd (fun x hx => by rw [List.mem_singleton] at hx; subst hx; exact ⟨hF, fun j => hF _⟩)
  rw [fmF_self F]
  have hO : ∃ K, b1 = true → bf = true → br = true → Ord p (mkp 64 d) (mkp 64 F) (mkp 64 (fun j => F (64 + j))) K := by
    by_cases h : b1 = true ∧ bf = true ∧ br = true
    · have hDi := hT.disc.2 h.1
      have hrd := (h1 h.2.1 (F, fun j => F (64 + j)) (by simp)).rdd hDi hd hF (fun j => hF _) (h2 h.2.2 (F, fun j => F (64 + j)) (by simp))
      obtain ⟨K, hK⟩ := Ord_of (hDi.sf hd) hDi.1.2 hrd
      exact ⟨K, fun _ _ _ => hK⟩
    · exact ⟨0, fun a b c => absurd ⟨a, b, c⟩ h⟩
  obtain ⟨K, hO⟩ := hO
  exact ⟨_, _, fun w => specOrderOfForm_any d F _ p b1 bf br T1 T2 K w hO hF (fun j => hF _) hT, fun w => implOrderOfForm_any d F _ p b1 bf br T1 T2 K w hO hF (fun j => hF _) hT⟩
end Go.Proofs.Ytohgjihccjnheab
