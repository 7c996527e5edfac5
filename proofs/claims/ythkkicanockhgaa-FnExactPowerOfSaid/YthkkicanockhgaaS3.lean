/- Walks: division of arrays. -/
import Derived.Test.YthkkicanockhgaaS2
namespace Go.Proofs.Ythkkicanockhgaa
open Go.RowKit

theorem divp_fst_cf {p : Int} (xs ys : List Int) (i : Nat) : cf (divp p xs ys).1 i = dquot p (invp p (cf ys (ys.length - 1))) ys (xs.length - (ys.length - 1)) (cf xs) i := by
  show cf (mkp _ _) i = _
  rw [mkp_cf]; split
  · rfl
  · rw [dquot_ge _ _ _ _ _ _ (by omega)]
theorem divp_snd_cf {p : Int} (xs ys : List Int) (h : 0 < ys.length) (i : Nat) : cf (divp p xs ys).2 i = drest p (invp p (cf ys (ys.length - 1))) ys (xs.length - (ys.length - 1)) (cf xs) i := by
  show cf (mkp _ _) i = _
  rw [mkp_cf]; split
  · rfl
  · by_cases h2 : ys.length - 1 ≤ xs.length
    · exact (drest_len h xs.length _ _ (by omega) (cf_Fin0 xs) i (by omega)).symm
    · rw [show xs.length - (ys.length - 1) = 0 by omega]
      exact (cf_ge xs i (by omega)).symm
theorem P64.quot {p : Int} {xs ys : List Int} (hx : P64 p xs) (hy : P64 p ys) (h : ys ≠ []) : P64 p (divp p xs ys).1 :=
  ⟨hx.pr, (divp_Po hx.pr hx.po hy.po h).1, Nat.le_trans (divp_quot_le p xs ys) (by have := hx.le; omega)⟩
theorem P64.rest {p : Int} {xs ys : List Int} (hx : P64 p xs) (hy : P64 p ys) (h : ys ≠ []) : P64 p (divp p xs ys).2 :=
  ⟨hx.pr, (divp_Po hx.pr hx.po hy.po h).2.1, Nat.le_trans (divp_rest_le p xs ys) hx.le⟩

set_option maxRecDepth 20000 in
set_option maxHeartbeats 2000000 in
theorem l01Divide_any (xs ys : List Int) (p : Int) (w : World) (hx : P64 p xs) (hy : P64 p ys) (hne : ys ≠ []) :
    Calls Try.prog 59 #[.int .i64 p, .agg (u8s 64 (cf xs)), .agg (u8s 64 (cf ys))] w fun e w' => e = .returned (.tuple #[.agg (u8s 64 (cf (divp p xs ys).1)), .agg (u8s 64 (cf (divp p xs ys).2))]) ∧ Below w.heap.size w w' := by
  have hxH := Lib.hid hx
  have hyH := Lib.hid hy
  have hp1 := hx.pr.pos.1
  have hp2 := hx.pr.pos.2
  have hpz : (p == 0) = false := by rw [beq_eq_false_iff_ne]; omega
  have hlx := hx.le
  have hly := hy.le
  have hLY : 0 < ys.length := List.length_pos_iff.2 hne
  have hinv := invp_spec hx.pr (hy.po.lead hne) (hy.po.md _).2
  have hl0 := hy.po.lead hne
  have hl1 := (hy.po.md (ys.length - 1)).2
  have hd1 := Lib.hid (fun i => divp_fst_cf (p := p) xs ys i)
  have hd2 := Lib.hid (fun i => divp_snd_cf (p := p) xs ys hLY i)
  have hxR := Lib.hid hx.rng
  have hyR := Lib.hid hy.rng
  have hprH := Lib.hid hx.pr
  have hIn := Lib.hid (show In p (cf xs) from hx.po.md)
  have hi0 := hinv.1
  have hi1 := hinv.2.1
  obtain ⟨L, hL⟩ : ∃ L, ys.length = L + 1 := ⟨ys.length - 1, by omega⟩
  rw [hL, Nat.add_sub_cancel] at hi0 hi1 hd1 hd2 hl0 hl1
  obtain ⟨K, hK⟩ : ∃ K, xs.length - L = K := ⟨_, rfl⟩
  rw [hK] at hd1 hd2
  have hinvH := Lib.hid (fun w => l01Inverse_any p (cf ys L) w hx.pr hl0 hl1)
  have hLi : (ys.length : Int) - 1 = (L : Int) := by omega
  have hLH := Lib.hid hL
  clear hx hy hne hinv
  generalize hiv : invp p (cf ys L) = inv at *
  clear hiv
  obtain ⟨hb0, hA, hB1, hZ, hY⟩ := boxes4 w (u8s 64 (cf xs)) (u8s 64 (cf ys)) (u8s 64 fun _ => 0) (u8s 64 fun _ => 0) 23 23 23 23
  go_enter Try.func59, Try.ntmps59
  go_wp2_with (first | (refine wpl_alloc_arr rfl 23 rfl _ zPoly ?_) | (refine wpl_build_zero rfl 23 64 5 rfl _ uPoly sByte zPoly ?_) | (refine wpl_load_arr rfl 23 _ rfl _ rfl _ _ hB1 _ _ uPoly sPoly ?_))
  refine (l01Deg_list p ys _ hyH.out).mono ?_
  rintro e w1 ⟨rfl, hb1⟩
  have hA1 := (hA.keep hb1).alloc (.cells (u8s 64 fun _ => 0) 23)
  have hB2 := (hB1.keep hb1).alloc (.cells (u8s 64 fun _ => 0) 23)
  have hZ1 := (hZ.keep hb1).alloc (.cells (u8s 64 fun _ => 0) 23)
  have hY1 := (hY.keep hb1).alloc (.cells (u8s 64 fun _ => 0) 23)
  have hQ1 := Blk.new w1 (u8s 64 fun _ => 0) 23
  have hb2 := below_step (below_step hb0 hb1) (below_new w1 (.cells (u8s 64 fun _ => 0) 23))
  have hQn0 : w1.heap.size ≠ w.heap.size := by have := (hA.keep hb1).lt; omega
  have hQn1 : w1.heap.size ≠ w.heap.size + 1 := by have := (hB1.keep hb1).lt; omega
  have hQn2 : w1.heap.size ≠ w.heap.size + 1 + 1 := by have := (hZ.keep hb1).lt; omega
  have hQn3 : w1.heap.size ≠ w.heap.size + 1 + 1 + 1 := by have := (hY.keep hb1).lt; omega
  have hge : w.heap.size ≤ w1.heap.size := by have := (hA.keep hb1).lt; omega
  have c0 : (w1.alloc (.cells (u8s 64 fun _ => 0) 23)).cell? ⟨w.heap.size + 1, L, none⟩ = some (.int .u8 (cf ys L)) := by rw [hB2.cell, u8s_get _ (by omega)]
  have hL64 : (L : Int) < 64 := by omega
  clear hA hB1 hZ hY hb0 hb1
  rw [hLi]
  go_wp2_with (first | (refine wpl_alloc_arr rfl 23 rfl _ zPoly ?_) | (refine wpl_store_new rfl 23 _ _ rfl _ rfl rfl _ rfl sPoly rfl (u8s_oneCell _ _) ?_))
  refine (hinvH.out _).mono ?_
  rintro e w2 ⟨rfl, rfl⟩
  go_wp2_with (refine wpl_load_arr rfl 23 _ rfl _ rfl _ _ hA1 _ _ uPoly sPoly ?_)
  refine (l01Deg_list p xs _ hxH.out).mono ?_
  rintro e w2 ⟨rfl, hb3⟩
  replace hA1 := hA1.keep hb3
  replace hB2 := hB2.keep hb3
  replace hZ1 := hZ1.keep hb3
  replace hY1 := hY1.keep hb3
  replace hQ1 := hQ1.keep hb3
  replace hb2 := below_step hb2 hb3
  clear hb3 c0
  have hKH := Lib.hid hK
  clear hK
  go_wp2_with fail
  go_loopw [11] (fun i wr => ∃ (k : Nat) (z : Int) (R : Nat → Int) (qv : Nat → Int), k ≤ K ∧ (0 < k → z = (k : Int) + (L : Int) - 1) ∧ (k = 0 → -1 ≤ z ∧ z < (L : Int)) ∧ i = .int .i64 z ∧ In p R ∧ drest p inv ys K (cf xs) = drest p inv ys k R ∧
    (∀ j, dquot p inv ys K (cf xs) j = if k ≤ j then qv j else dquot p inv ys k R j) ∧ Blk wr w.heap.size (u8s 64 R) 23 ∧ Blk wr (w.heap.size + 1) (u8s 64 (cf ys)) 23 ∧ Blk wr (w.heap.size + 1 + 1) (u8s 64 fun _ => 0) 23 ∧ Blk wr (w.heap.size + 1 + 1 + 1) (u8s 64 fun _ => 0) 23 ∧
    Blk wr w1.heap.size (u8s 64 (fun j => if k ≤ j then qv j else 0)) 23 ∧ Below w.heap.size w wr) (fun i _ => (intOf i + 1).toNat)
  case atStart =>
    refine ⟨K, (xs.length : Int) - 1, cf xs, fun _ => 0, Nat.le_refl _, fun h => by have := hKH.out; omega, fun h => by have := hKH.out; omega, rfl, hIn.out, rfl, fun j => ?_, hA1, hB2, hZ1, hY1, hQ1.cast (u8s_ext fun j hj => by simp), hb2⟩
    by_cases hj : K ≤ j
    · rw [if_pos hj, dquot_ge _ _ _ _ _ _ hj]
    · rw [if_neg hj]
  case round =>
    clear hA1 hB2 hZ1 hY1 hQ1 hb2
    obtain ⟨k, z, R, qv, hk, hz1, hz0, rfl, hR, hdr, hdq, b0, b1, b2, b3, hQ, hb⟩ := hrel
    have hRH := Lib.hid hR
    have hdrH := Lib.hid hdr
    have hdqH := Lib.hid hdq
    clear hR hdr hdq
    by_cases h0 : k = 0
    · obtain ⟨hz2, hz3⟩ := hz0 h0
      have eR : drest p inv ys K (cf xs) = R := by rw [hdrH.out, h0]; rfl
      have eQ : ∀ j, qv j = dquot p inv ys K (cf xs) j := fun j => by rw [hdqH.out j, h0, if_pos (Nat.zero_le _)]
      have hQ2 : Blk wr w1.heap.size (u8s 64 (dquot p inv ys K (cf xs))) 23 := hQ.cast (u8s_ext fun j _ => by rw [h0, if_pos (Nat.zero_le _), eQ])
      have b4 : Blk wr w.heap.size (u8s 64 (drest p inv ys K (cf xs))) 23 := by rw [eR]; exact b0
      clear hQ b0 hz1 hz0 hdrH hdqH eR eQ h0
      have hF := Lib.hid (show Ending.returned (.tuple #[.agg (u8s 64 (dquot p inv ys K (cf xs))), .agg (u8s 64 (drest p inv ys K (cf xs)))]) = .returned (.tuple #[.agg (u8s 64 (cf (divp p xs ys).1)), .agg (u8s 64 (cf (divp p xs ys).2))]) by
        rw [u8s_ext (f := dquot p inv ys K (cf xs)) fun i _ => (hd1.out i).symm, u8s_ext (f := drest p inv ys K (cf xs)) fun i _ => (hd2.out i).symm])
      go_upto_region 12 with (fail)
      refine gen_region (ws := w) (w := wr) (B := w.heap.size) (by kernel_rfl) (by kernel_rfl) (by kernel_rfl) (by kernel_rfl)
          (fun i => ([fun v _ => v = .agg (u8s 64 (dquot p inv ys K (cf xs))), fun v _ => v = .agg (u8s 64 (drest p inv ys K (cf xs))), fun _ _ => True, fun _ _ => True] : List (Value → World → Prop)).getD i (fun _ _ => True))
          (fun i => ([true, true, true, true] : List Bool).getD i true)
          2 (fun k => [2, 3].getD k 0) (fun k => [0, 1].getD k 0) (fun k => [6, 7].getD k 0) (fun k => [81, 82].getD k 0) (fun k => [w.heap.size + 1 + 1, w.heap.size + 1 + 1 + 1].getD k 0) (fun k => [64, 64].getD k 0) (fun k => [(dquot p inv ys K (cf xs)), (drest p inv ys K (cf xs))].getD k (fun _ => 0)) (fun k => [(fun _ => 0), (fun _ => 0)].getD k (fun _ => 0)) (fun k => [23, 23].getD k 0) hb (Nat.le_refl _)
          (fun w' => Blk w' (w1.heap.size) (u8s 64 (dquot p inv ys K (cf xs))) 23 ∧ Blk w' (w.heap.size) (u8s 64 (drest p inv ys K (cf xs))) 23 ∧ True) ⟨hQ2.drew, b4.drew, trivial⟩ (fun w1 w2 h hb => ⟨h.1.keep hb, h.2.1.keep hb, trivial⟩) ?_ ?_ ?_ ?_ ?_ ?_ ?_
      · intro k hk w1 cs h
        rcases k with _|_|k
        · exact ⟨h.1.setRow_other (by simp only [List.getD_cons_zero, List.getD_cons_succ] <;> omega), h.2.1.setRow_other (by simp only [List.getD_cons_zero, List.getD_cons_succ] <;> omega), trivial⟩
        · exact ⟨h.1.setRow_other (by simp only [List.getD_cons_zero, List.getD_cons_succ] <;> omega), h.2.1.setRow_other (by simp only [List.getD_cons_zero, List.getD_cons_succ] <;> omega), trivial⟩
        · omega
      · intro i v w1 w2 h hb
        rcases i with _|_|_|_|i
        · exact h
        · exact h
        · exact h
        · exact h
        · exact h
      · intro k hk
        rcases k with _|_|k
        · kernel_rfl
        · kernel_rfl
        · omega
      · intro k hk
        rcases k with _|_|k
        · refine ⟨?_, (by kernel_rfl), b2, fun v w' h => h, by decide, ?_⟩
          · simp only [List.getD_cons_zero, List.getD_cons_succ] <;> omega
          · intro k' hk' hne
            rcases k' with _|_|k'
            all_goals first | omega | exact absurd rfl hne | (refine ⟨?_, by decide⟩; simp only [List.getD_cons_zero, List.getD_cons_succ]; omega)
        · refine ⟨?_, (by kernel_rfl), b3, fun v w' h => h, by decide, ?_⟩
          · simp only [List.getD_cons_zero, List.getD_cons_succ] <;> omega
          · intro k' hk' hne
            rcases k' with _|_|k'
            all_goals first | omega | exact absurd rfl hne | (refine ⟨?_, by decide⟩; simp only [List.getD_cons_zero, List.getD_cons_succ]; omega)
        · omega
      · kernel_rfl
      · intro i o ho hz a w2 hBs hSx hBl hrd hpar
        rcases i with _|_|_|_|i
        · obtain rfl := Option.some.inj ho
          exact wpv_of (wp_loadB 23 _ rfl _ (hpar 8 (.pointer (some ⟨w1.heap.size, 0, none⟩)) (by kernel_rfl) (by kernel_rfl)) _ _ hSx.1 _ _ uPoly sPoly) (fun _ _ => rfl)
        · obtain rfl := Option.some.inj ho
          exact wpv_of (wp_loadB 23 _ rfl _ (hpar 4 (.pointer (some ⟨w.heap.size, 0, none⟩)) (by kernel_rfl) (by kernel_rfl)) _ _ hSx.2.1 _ _ uPoly sPoly) (fun _ _ => rfl)
        · exact absurd rfl (hz 0 (by decide))
        · exact absurd rfl (hz 1 (by decide))
        · simp at ho
      intro vals xE hBx hSx hS0 hcs hrs
      obtain ⟨_, e0⟩ : ∃ _w : World, vals 0 = .agg (u8s 64 (dquot p inv ys K (cf xs))) := hcs 0 (by simp) (by decide)
      obtain ⟨_, e1⟩ : ∃ _w : World, vals 1 = .agg (u8s 64 (drest p inv ys K (cf xs))) := hcs 1 (by simp) (by decide)
      have hsE0 : Blk xE (w.heap.size + 1 + 1) (u8s 64 (dquot p inv ys K (cf xs))) 23 := hrs 0 (by decide)
      have hsE1 : Blk xE (w.heap.size + 1 + 1 + 1) (u8s 64 (drest p inv ys K (cf xs))) 23 := hrs 1 (by decide)
      simp only [List.length_cons, List.length_nil, Nat.zero_add, Nat.reduceAdd, List.replicate, putAll, if_true, Act.put, List.setIfInBounds_toArray, List.set_cons_zero, List.set_cons_succ, e0, e1]
      replace hQ2 := hSx.1
      replace b4 := hSx.2.1
      clear hcs hrs hS0 hSx e0 e1
      go_wp2_with fail
      exact bodyPost_ret (res_cc rfl rfl hsE0 uPoly sPoly rfl hsE1 uPoly sPoly) rfl ⟨hF.out, hBx⟩
    · obtain ⟨m, rfl⟩ : ∃ m, k = m + 1 := ⟨k - 1, by omega⟩
      obtain rfl : z = ((m + L : Nat) : Int) := by have := hz1 (by omega); omega
      have hmL : m + L < 64 := by have := hKH.out; omega
      clear hz1 hz0
      have c0 : wr.cell? ⟨w.heap.size, m + L, none⟩ = some (.int .u8 (R (m + L))) := by rw [b0.cell, u8s_get _ hmL]
      have cq : wr.cell? ⟨w1.heap.size, m, none⟩ = some (.int .u8 0) := by rw [hQ.cell, u8s_get _ (by omega), if_neg (by omega)]
      have cqf := hQ.free m
      have hRt := hRH.out (m + L)
      have hr0 := hRt.1
      have hr1 := hRt.2
      have ht := term_bound hr0 (by omega) (show 0 ≤ inv by omega) (by omega)
      have ht0 := ht.1
      have ht1 := ht.2
      have hqb := mulmod_bound (p := p) (x := R (m + L)) (y := inv) (by omega)
      have hq0 := hqb.1
      have hq1 := hqb.2
      have hmi : ((m + L : Nat) : Int) - (L : Int) = (m : Int) := by omega
      have hm64 : (m : Int) < 64 := by omega
      have hmL64 : ((m + L : Nat) : Int) < 64 := by omega
      have hge2 : (L : Int) ≤ ((m + L : Nat) : Int) := by omega
      have hge3 : ¬ ((m + L : Nat) : Int) < (L : Int) := by omega
      clear ht hqb hRt
      go_wp2_with fail
      generalize hqq : R (m + L) * inv % p = q at *
      have hqH := Lib.hid hqq
      clear hqq
      have b01 := (b0.set_other ⟨w1.heap.size, m, none⟩ (.int .u8 q) (by simp; omega)).cast (cs' := u8s 64 (dpart p q ys m 0 R)) (by rw [dpart_zero])
      have b11 := b1.set_other ⟨w1.heap.size, m, none⟩ (.int .u8 q) (by simp; omega)
      have b21 := b2.set_other ⟨w1.heap.size, m, none⟩ (.int .u8 q) (by simp; omega)
      have b31 := b3.set_other ⟨w1.heap.size, m, none⟩ (.int .u8 q) (by simp; omega)
      have hQ1 := (hQ.set m (.int .u8 q)).cast (cs' := u8s 64 (fun j => if m ≤ j then (if j = m then q else qv j) else 0)) (by
        rw [u8s_set]; apply u8s_ext; intro j _
        by_cases e1 : j = m
        · subst e1; simp
        · by_cases e2 : m ≤ j
          · simp [e1, e2, show m + 1 ≤ j by omega]
          · simp [e1, e2, show ¬ m + 1 ≤ j by omega])
      have hb2 : Below w.heap.size w (wr.setCell ⟨w1.heap.size, m, none⟩ (.int .u8 q)) := hb.setCell (by simp; omega) _
      clear b0 b1 b2 b3 hQ hb c0 cq cqf
      go_loopw [13] (fun i wr => ∃ j : Nat, j ≤ L + 1 ∧ (q = 0 → j = 0) ∧ i = .int .i64 j ∧ Blk wr w.heap.size (u8s 64 (dpart p q ys m j R)) 23 ∧ Blk wr (w.heap.size + 1) (u8s 64 (cf ys)) 23 ∧ Blk wr (w.heap.size + 1 + 1) (u8s 64 fun _ => 0) 23 ∧ Blk wr (w.heap.size + 1 + 1 + 1) (u8s 64 fun _ => 0) 23 ∧
        Blk wr w1.heap.size (u8s 64 (fun j => if m ≤ j then (if j = m then q else qv j) else 0)) 23 ∧ Below w.heap.size w wr) (fun i _ => L + 1 - (intOf i).toNat)
      case atStart => exact ⟨0, by omega, fun _ => rfl, rfl, b01, b11, b21, b31, hQ1, hb2⟩
      case round =>
        clear b01 b11 b21 b31 hQ1 hb2
        obtain ⟨j, hj, hjz, rfl, b0, b1, b2, b3, hQ, hb⟩ := hrel
        have hjzH := Lib.hid hjz
        clear hjz
        have hfin : (q = 0 ∨ j = L + 1) → Blk wr w.heap.size (u8s 64 (dstep p inv ys m R)) 23 := by
          rintro (h | h)
          · have h1 : dpart p q ys m j R = R := by rw [hjzH.out h, dpart_zero]
            rw [h1] at b0
            rwa [dstep_skip hRH.out (by rw [hLH.out]; show R (m + L) * inv % p = 0; rw [hqH.out, h])]
          · have h1 : dpart p q ys m j R = dstep p inv ys m R := by rw [h, ← hLH.out, ← dpart_all, hLH.out]; show _ = dpart p (R (m + L) * inv % p) ys m (L + 1) R; rw [hqH.out]
            rwa [h1] at b0
        have hR2 := dstep_In (p := p) (inv := inv) (b := ys) (i := m) (by omega) hRH.out
        have hdr2 : drest p inv ys K (cf xs) = drest p inv ys m (dstep p inv ys m R) := hdrH.out
        have hdq2 : ∀ j, dquot p inv ys K (cf xs) j = if m ≤ j then (if j = m then q else qv j) else dquot p inv ys m (dstep p inv ys m R) j := by
          intro i
          rw [hdqH.out i]
          by_cases h1 : m + 1 ≤ i
          · rw [if_pos h1, if_pos (by omega), if_neg (by omega)]
          · rw [if_neg h1]
            show (if i = m then R (m + (ys.length - 1)) * inv % p else dquot p inv ys m (dstep p inv ys m R) i) = _
            by_cases h2 : i = m
            · rw [if_pos h2, if_pos (by omega), if_pos h2, ← hqH.out, hLH.out]; rfl
            · rw [if_neg h2, if_neg (by omega)]
        have H := Lib.hid (And.intro hR2 (And.intro hdr2 hdq2))
        have hfH := Lib.hid hfin
        clear hR2 hdr2 hdq2 hfin
        by_cases hlt : j < L + 1
        · by_cases hz : q = 0
          · have b4 := hfH.out (.inl hz)
            have hzb : (q == 0) = true := by rw [hz]; rfl
            clear hfH b0 hz
            go_wp2_with fail
            go_roundw
            case rel => exact ⟨m, (m : Int) + (L : Int) - 1, _, _, by omega, fun _ => rfl, fun h => by omega, by go_num, H.out.1, H.out.2.1, H.out.2.2, b4, b1, b2, b3, hQ, hb⟩
            case measure => simp [intOf] <;> omega
          · have hzH := Lib.hid hz
            have hzb : (q == 0) = false := by rw [beq_eq_false_iff_ne]; exact hz
            have c1 : wr.cell? ⟨w.heap.size + 1, j, none⟩ = some (.int .u8 (cf ys j)) := by rw [b1.cell, u8s_get _ (by omega)]
            have c2 : wr.cell? ⟨w.heap.size, m + j, none⟩ = some (.int .u8 (R (m + j))) := by rw [b0.cell, u8s_get _ (by omega), dpart_at]
            have c3 := b0.free (m + j)
            have hy := hyR.out j
            have hy0 := hy.1
            have hy1 := hy.2
            have hRt := hRH.out (m + j)
            have hs0 := hRt.1
            have hs1 := hRt.2
            have ht := term_bound hq0 (by omega) hy0 hy1
            have ht0 := ht.1
            have ht1 := ht.2
            have htm := tmod_range p (R (m + j) - q * cf ys j) (by omega)
            have htm0 := htm.1
            have htm1 := htm.2
            have hrr := Lib.hid (tmod_reduce p (R (m + j) - q * cf ys j) (by omega))
            have hru := addF_range hprH.out ((R (m + j) - q * cf ys j).tmod p + p)
            have hru0 := hru.1
            have hru1 := hru.2
            have hmj : (m : Int) + (j : Int) < 64 := by omega
            have hj64 : (j : Int) < 64 := by omega
            clear hy hRt ht htm hru hz hfH
            go_wp2_with fail
            go_region
            go_wp2
            go_roundw
            case rel =>
              refine ⟨j + 1, by omega, fun h => absurd h hzH.out, by go_num, ?_, (b1.set_other _ _ (by simp)).drew, (b2.set_other _ _ (by simp; omega)).drew, (b3.set_other _ _ (by simp; omega)).drew, (hQ.set_other _ _ (by simp; omega)).drew, (hb.setCell (by simp) _).drew⟩
              refine ((b0.set (m + j) _).cast ?_).drew
              rw [u8s_set]; apply u8s_ext; intro i _
              rw [dpart_step]
              by_cases e1 : i = m + j
              · subst e1
                have e : (R (m + j) - q * cf ys j).tmod p % p = (R (m + j) - q * cf ys j) % p := by simpa using hrr.out
                have hq := addF_range hprH.out (R (m + j) - q * cf ys j)
                simp [e, Int.emod_eq_of_lt hq.1 (show (R (m + j) - q * cf ys j) % p < 256 by omega)]
              · simp [e1]
            case measure => simp [intOf] <;> omega
        · have b4 := hfH.out (.inr (by omega))
          clear hfH b0
          go_wp2_with fail
          go_roundw
          case rel => exact ⟨m, (m : Int) + (L : Int) - 1, _, _, by omega, fun _ => rfl, fun h => by omega, by go_num, H.out.1, H.out.2.1, H.out.2.2, b4, b1, b2, b3, hQ, hb⟩
          case measure => simp [intOf] <;> omega
end Go.Proofs.Ythkkicanockhgaa
