/- Walks: the diagonal on both sides; LeastOf. -/
import Derived.Test.YtnkkkgaojhkniabSpA
set_option linter.unusedVariables false
set_option linter.unusedSimpArgs false
namespace Go.Proofs.Ytnkkkgaojhkniab
open Go.RowKit
theorem calls_get {P : Program} {f : FuncId} {args : Array Value} {w : World} {R : Ending → World → Prop} (h : Calls P f args w R) : ∃ e w', R e w' := by
  obtain ⟨e, w', _, h, _⟩ := h []
  exact ⟨e, w', h⟩
def sqM (F : Nat → Int) (j : Nat) : List Int := mkp 6 fun c => F (j * 6 + c)
theorem Sm.uniq {p : Int} {n : Nat} {A : Nat → Nat → PS} {M M' : MxL} (hp : Pr p) (h : Sm p n A n M) (h' : Sm p n A n M') {i : Nat} (hi : i < n) : monic p (M i i) = monic p (M' i i) := by
  have e : ∀ k, k ≤ n → gk p (fun i => M i i) k = gk p (fun i => M' i i) k := fun k hk => (h.isG hp hk).same hp (h'.isG hp hk)
  have q1 := gk_quot hp (D := fun i => M i i) (k := i) fun j hj => ⟨h.po j j (by omega) (by omega), h.piv j (by omega)⟩
  have q2 := gk_quot hp (D := fun i => M' i i) (k := i) fun j hj => ⟨h'.po j j (by omega) (by omega), h'.piv j (by omega)⟩
  rw [e (i + 1) (by omega), e i (by omega)] at q1
  exact q1.symm.trans q2
/-- A matrix of N rows with its diagonal form. -/
structure Fac (p n : Int) (F : Nat → Int) (N : Nat) (M : MxL) : Prop where
  hn : n = (N : Int)
  pos : 0 < N
  le : N ≤ 6
  pr : Pr p
  by_ : By F
  ent : ∀ i j, i < N → j < N → 0 ≤ F (i * 6 + j) ∧ F (i * 6 + j) < p ∧ cf (sqM F i) j = F (i * 6 + j)
  md : ∀ i j, i < N → 0 ≤ cf (sqM F i) j ∧ cf (sqM F i) j < p
  sm : Sm p N (cfm (entM p (sqM F))) N M
theorem fac_ok {p n : Int} {F : Nat → Int} (hF : By F) (h : SqOk p n F) : ∃ N M, Fac p n F N M := by
  have hp2 := h.1.pos
  obtain ⟨N, hN⟩ : ∃ N : Nat, n = (N : Int) := ⟨n.toNat, by have := h.2.1; omega⟩
  have h1 : 0 < N := by have := h.2.1; omega
  have h2 : N ≤ 6 := by have := h.2.1; omega
  have he : ∀ i j, i < N → j < 6 → 0 ≤ F (i * 6 + j) ∧ F (i * 6 + j) < p := fun i j hi hj => ⟨(hF _).1, ((h.2.2 i (by omega)).1 j hj).1⟩
  have hc : ∀ i j, j < 6 → cf (sqM F i) j = F (i * 6 + j) := fun i j hj => by unfold sqM; rw [mkp_cf, if_pos hj]
  have hm : ∀ i j, i < N → 0 ≤ cf (sqM F i) j ∧ cf (sqM F i) j < p := fun i j hi => by
    by_cases hj : j < 6
    · rw [hc i j hj]; exact he i j hi hj
    · unfold sqM; rw [mkp_cf, if_neg hj]; omega
  obtain ⟨e, w, v, _, hR, _⟩ := calls_get (matrix_any F N default hF h2)
  obtain ⟨e', w', v', R', M, _, _, _, hSm, _⟩ := calls_get (invariants_any v N (sqM F) p w h.1 h1 h2 hR hm)
  exact ⟨N, M, hN, h1, h2, h.1, hF, fun i j hi hj => ⟨(he i j hi (by omega)).1, (he i j hi (by omega)).2, hc i j (by omega)⟩, hm, hSm⟩
theorem Fac.factors {p n : Int} {F : Nat → Int} {N : Nat} {M : MxL} (h : Fac p n F N M) (w : World) : Calls Try.prog 28 #[.int .i64 p, .int .i64 n, .agg (u8s 36 F)] w fun e w' => ∃ g c, e = .returned (.slice (some ⟨g, 0, none⟩) N c) ∧ w.heap.size ≤ g ∧ BsL 25 64 w' w.heap.size (.slice (some ⟨g, 0, none⟩) N c) N (fun i => monic p (M i i)) ∧ Below w.heap.size w w' := by
  rw [h.hn]
  refine (l05Factors_any F p N (sqM F) M w h.pr h.pos h.le h.ent h.sm).mono ?_
  rintro e w' ⟨v, rfl, h1, h2⟩
  obtain ⟨g, c, rfl, hg⟩ := h1.form h.pos
  exact ⟨g, c, rfl, hg, h1, h2⟩
theorem Fac.mat {p n : Int} {F : Nat → Int} {N : Nat} {M : MxL} (h : Fac p n F N M) (w : World) : Calls Try.prog 32 #[.int .i64 n, .agg (u8s 36 F)] w fun e w' => ∃ v, e = .returned v ∧ IsRows w' v N (sqM F) ∧ Below w.heap.size w w' := by
  rw [h.hn]; exact matrix_any F N w h.by_ h.le
theorem Fac.invs {p n : Int} {F : Nat → Int} {N : Nat} {M : MxL} (h : Fac p n F N M) (v : Value) (w : World) (hv : IsRows w v N (sqM F)) : Calls Try.prog 31 #[.int .i64 p, v] w fun e w' => ∃ b c R, e = .returned (.slice (some ⟨b, 0, none⟩) N c) ∧ w.heap.size ≤ b ∧ LineB w' w.heap.size 55 (.slice (some ⟨b, 0, none⟩) N c) N R ∧ (∀ i, i < N → IsRow w' (R i) (monic p (M i i))) ∧ Below w.heap.size w w' := by
  refine (invariants_any v N (sqM F) p w h.pr h.pos h.le hv h.md).mono ?_
  rintro e w' ⟨v', R, M', rfl, hL, hR, hSm, hb⟩
  have hL' := hL
  rcases hL' with ⟨_, e0⟩ | ⟨b, c, rfl, h1, _⟩
  · have := h.pos; omega
  · exact ⟨b, c, R, rfl, h1, hL, fun i hi => by rw [h.sm.uniq h.pr hSm hi]; exact hR i hi, hb⟩
theorem LineB.cellR {w : World} {base e q b c : Nat} {R : Nat → Value} (h : LineB w base e (.slice (some ⟨b, 0, none⟩) q c) q R) {i : Nat} (hi : i < q) : w.cell? ⟨b, i, none⟩ = some (R i) := by
  rcases h with ⟨h1, _⟩ | ⟨b', c', h1, h2, h3, h4, h5, _⟩
  · simp at h1
  · simp only [Value.slice.injEq, Option.some.injEq, Addr.mk.injEq, and_true, true_and] at h1
    obtain ⟨rfl, rfl⟩ := h1
    rw [h5.cell]; exact arr_get_lt R (by omega)
theorem Fac.po {p n : Int} {F : Nat → Int} {N : Nat} {M : MxL} (h : Fac p n F N M) (i : Nat) : Po p (monic p (M i i)) := monic_Po h.pr _
theorem Fac.len {p n : Int} {F : Nat → Int} {N : Nat} {M : MxL} (h : Fac p n F N M) : ∀ k, k ≤ N → (gk p (fun i => M i i) k).length ≤ 8 := fun k hk =>
  (h.sm.isG h.pr hk).len h.pr h.le (by have := h.le; omega) fun i j _ _ => ⟨entM_Po h.pr _ i j, entM_len _ i j⟩
theorem Fac.mlen {p n : Int} {F : Nat → Int} {N : Nat} {M : MxL} (h : Fac p n F N M) {i : Nat} (hi : i < N) : (monic p (M i i)).length ≤ 8 := by
  have h1 := h.len (i + 1) (by omega)
  obtain ⟨g1, g2, _⟩ := gk_monic h.pr (D := fun i => M i i) i fun j hj => ⟨h.sm.po j j (by omega) (by omega), h.sm.piv j (by omega)⟩
  obtain ⟨m1, _, _⟩ := monic_ne h.pr (h.sm.po i i hi hi) (h.sm.piv i hi)
  have e : (gk p (fun i => M i i) (i + 1)).length + 1 = (gk p (fun i => M i i) i).length + (monic p (M i i)).length := mulp_length h.pr g1 (monic_Po h.pr (M i i)) g2 m1
  have := List.length_pos_iff.2 g2
  omega
theorem told_Po {p : Int} {xs : List Int} (v : Value) (w : World) (hp : Pr p) (h : IsRow w v xs) (hx : Po p xs) (hl : xs.length ≤ 64) : Calls Try.prog 33 #[v] w fun e w' => e = .returned (.tuple #[.agg (u8s 64 (cf xs)), .int .i64 0]) ∧ Below w.heap.size w w' := by
  have hp2 := hp.pos
  have := told_any v xs w h fun i => by have := hx.md i; omega
  rwa [show toldF xs = cf xs from if_pos hl, show toldC xs = 0 from if_pos hl] at this
def onF (b : Bool) (X : List Int) : Nat → Int := if b then cf X else fun _ => 0
def onC (b : Bool) : Int := if b then 0 else 1
set_option maxRecDepth 20000 in
set_option maxHeartbeats 4000000 in
theorem specLeastOf_any (F : Nat → Int) (p n : Int) (b : Bool) (X : List Int) (w : World) (hF : By F) (hb : SqOk p n F ↔ b = true) (hX : b = true → ∃ N M, Fac p n F N M ∧ X = monic p (M (N - 1) (N - 1))) :
    Calls Try.prog 9 #[.int .i64 p, .int .i64 n, .agg (u8s 36 F)] w fun e w' => e = .returned (.tuple #[.agg (u8s 64 (onF b X)), .int .i64 (onC b)]) ∧ Below w.heap.size w w' := by
  have hFH := Lib.hid hF
  have hbH := Lib.hid hb
  have hXH := Lib.hid hX
  clear hF hb hX
  obtain ⟨hb, hA, hZ⟩ := boxes2 w (u8s 36 F) (u8s 64 fun _ => 0) 30 25
  go_enter Try.func9, Try.ntmps9
  go_wp2_with ((with_reducible refine wpl_guard ?_); first | (refine wpl_load_arr rfl 30 _ rfl _ rfl _ _ hA _ _ uSquare sSquare ?_) | (refine wpl_alloc_arr rfl 25 rfl _ zPoly ?_))
  refine (l05Is_any p n F b _ hFH.out hbH.out).mono ?_
  rintro e u1 ⟨rfl, hn⟩
  replace hA := hA.keep hn
  replace hZ := hZ.keep hn
  replace hb := below_step hb hn
  clear hn
  cases b
  · go_wp2_with ((with_reducible refine wpl_guard ?_); first | (refine wpl_build_zero rfl 25 64 5 rfl _ uPoly sByte zPoly ?_) | (refine wpl_store_arr rfl 25 _ _ rfl _ rfl _ rfl _ _ hZ sPoly (by simp only [u8s_size]) (u8s_oneCell _ _) ?_))
    exact bodyPost_ret (res_ct (x := .int .i64 1) rfl rfl (hZ.setRow_same (cs := u8s 64 fun _ => 0)) uPoly sPoly rfl) rfl ⟨rfl, below_setRow hb (by omega) _⟩
  obtain ⟨N, M, hfac, hXe⟩ := hXH.out rfl
  have hf := Lib.hid hfac
  have hXeH := Lib.hid hXe
  have hN0 := hfac.pos
  have hN6 := hfac.le
  have hNI : (N : Int) ≤ 6 := by omega
  clear hfac hXe hXH hbH hFH
  go_wp2_with ((with_reducible refine wpl_guard ?_); first | (refine wpl_load_arr rfl 30 _ rfl _ rfl _ _ hA _ _ uSquare sSquare ?_))
  refine (hf.out.factors _).mono ?_
  rintro e u2 ⟨g, c, rfl, hg, hL, hn⟩
  replace hA := hA.keep hn
  replace hZ := hZ.keep hn
  replace hb := below_step hb hn
  clear hn
  have hcl := Lib.hid (fun q (hq : q < 64) => hL.cells (by decide) (N - 1) (by omega) q hq)
  rw [← hXeH.out] at hcl
  have hLt := (hL.lt g rfl).1
  clear hL
  go_wp2_with ((with_reducible refine wpl_guard ?_); first | (refine wpl_index_bs rfl 38 25 64 _ _ rfl uTlnT sPoly (by decide) g N c (N - 1) .i64 rfl (congrArg (Value.int .i64) (by omega)) (by omega) ?_) | (refine wpl_load_bs rfl 25 _ rfl 64 g ((N - 1) * 64) rfl (cf X) hcl.out 5 uPoly sPoly ?_) | (refine wpl_store_arr rfl 25 _ _ rfl _ rfl _ rfl _ _ hZ sPoly (by simp only [u8s_size]) (u8s_oneCell _ _) ?_))
  exact bodyPost_ret (res_ct (x := .int .i64 0) rfl rfl (hZ.setRow_same (cs := u8s 64 (cf X))) uPoly sPoly rfl) rfl ⟨rfl, below_setRow hb (by omega) _⟩
set_option maxRecDepth 20000 in
set_option maxHeartbeats 4000000 in
theorem implLeastOf_any (F : Nat → Int) (p n : Int) (b : Bool) (X : List Int) (w : World) (hF : By F) (hb : SqOk p n F ↔ b = true) (hX : b = true → ∃ N M, Fac p n F N M ∧ X = monic p (M (N - 1) (N - 1))) :
    Calls Try.prog 11 #[.int .i64 p, .int .i64 n, .agg (u8s 36 F)] w fun e w' => e = .returned (.tuple #[.agg (u8s 64 (onF b X)), .int .i64 (onC b)]) ∧ Below w.heap.size w w' := by
  have hFH := Lib.hid hF
  have hbH := Lib.hid hb
  have hXH := Lib.hid hX
  clear hF hb hX
  obtain ⟨hb, hA, hZ⟩ := boxes2 w (u8s 36 F) (u8s 64 fun _ => 0) 30 25
  go_enter Try.func11, Try.ntmps11
  go_wp2_with ((with_reducible refine wpl_guard ?_); first | (refine wpl_load_arr rfl 30 _ rfl _ rfl _ _ hA _ _ uSquare sSquare ?_) | (refine wpl_alloc_arr rfl 25 rfl _ zPoly ?_))
  refine (implIsSquare_any p n F b _ hFH.out hbH.out).mono ?_
  rintro e u1 ⟨rfl, hn⟩
  replace hA := hA.keep hn
  replace hZ := hZ.keep hn
  replace hb := below_step hb hn
  clear hn
  cases b
  · go_wp2_with ((with_reducible refine wpl_guard ?_); first | (refine wpl_build_zero rfl 25 64 5 rfl _ uPoly sByte zPoly ?_) | (refine wpl_store_arr rfl 25 _ _ rfl _ rfl _ rfl _ _ hZ sPoly (by simp only [u8s_size]) (u8s_oneCell _ _) ?_))
    exact bodyPost_ret (res_ct (x := .int .i64 1) rfl rfl (hZ.setRow_same (cs := u8s 64 fun _ => 0)) uPoly sPoly rfl) rfl ⟨rfl, below_setRow hb (by omega) _⟩
  obtain ⟨N, M, hfac, hXe⟩ := hXH.out rfl
  have hf := Lib.hid hfac
  have hXeH := Lib.hid hXe
  have hN0 := hfac.pos
  have hN6 := hfac.le
  have hNI : (N : Int) ≤ 6 := by omega
  clear hfac hXe hXH hbH hFH
  go_wp2_with ((with_reducible refine wpl_guard ?_); first | (refine wpl_load_arr rfl 30 _ rfl _ rfl _ _ hA _ _ uSquare sSquare ?_))
  refine (hf.out.mat _).mono ?_
  rintro e u2 ⟨v2, rfl, hR, hn⟩
  replace hA := hA.keep hn
  replace hZ := hZ.keep hn
  replace hb := below_step hb hn
  clear hn
  go_wp2_with fail
  refine (hf.out.invs _ _ hR).mono ?_
  rintro e u3 ⟨g, c, R, rfl, hg, hL, hRw, hn⟩
  replace hA := hA.keep hn
  replace hZ := hZ.keep hn
  replace hb := below_step hb hn
  clear hn
  clear hR
  obtain ⟨m, hm⟩ : ∃ m, N - 1 = m := ⟨_, rfl⟩
  have hmN : m < N := by omega
  have hNm : (N : Int) - 1 = (m : Int) := by omega
  have hmI : (m : Int) < (N : Int) := by omega
  have c1 := hL.cellR hmN
  have hrow := Lib.hid (hRw m hmN)
  have htold := Lib.hid (fun w v (h : IsRow w v X) => told_Po v w hf.out.pr h (by rw [hXeH.out]; exact hf.out.po _) (by rw [hXeH.out]; have := hf.out.mlen (i := N - 1) (by omega); omega))
  have hXm := Lib.hid (by rw [hXeH.out, hm] : X = monic p (M m m))
  obtain ⟨oR, cR, hRe⟩ := (hRw m hmN).form
  rw [hRe] at c1
  clear hL hRw hm
  go_wp2_with fail
  refine (htold.out _ _ (by rw [← hRe, hXm.out]; exact hrow.out)).mono ?_
  rintro e u4 ⟨rfl, hn⟩
  replace hA := hA.keep hn
  replace hZ := hZ.keep hn
  replace hb := below_step hb hn
  clear hn
  clear hrow htold hXm c1 hRe
  go_wp2_with ((with_reducible refine wpl_guard ?_); first | (refine wpl_store_arr rfl 25 _ _ rfl _ rfl _ rfl _ _ hZ sPoly (by simp only [u8s_size]) (u8s_oneCell _ _) ?_))
  exact bodyPost_ret (res_ct (x := .int .i64 0) rfl rfl (hZ.setRow_same (cs := u8s 64 (cf X))) uPoly sPoly rfl) rfl ⟨rfl, below_setRow hb (by omega) _⟩
theorem LeastOf_pair (p n : Int) (F : Nat → Int) (_ : (Lit.int .i64 p).wf = true) (_ : (Lit.int .i64 n).wf = true) (hF : By F) : ∃ (r0 : Nat → Int) (r1 : Int),
    (∀ w, Calls Try.prog 9 #[.int .i64 p, .int .i64 n, .agg (u8s 36 F)] w fun e w' => e = .returned (.tuple #[.agg (u8s 64 r0), .int .i64 r1]) ∧ Below w.heap.size w w') ∧
    (∀ w, Calls Try.prog 11 #[.int .i64 p, .int .i64 n, .agg (u8s 36 F)] w fun e w' => e = .returned (.tuple #[.agg (u8s 64 r0), .int .i64 r1]) ∧ Below w.heap.size w w') := by
  obtain ⟨b, hb⟩ := dec_true (SqOk p n F)
  obtain ⟨X, hX⟩ : ∃ X : List Int, b = true → ∃ N M, Fac p n F N M ∧ X = monic p (M (N - 1) (N - 1)) := by
    cases b
    · exact ⟨[], fun h => by cases h⟩
    · obtain ⟨N, M, h⟩ := fac_ok hF (hb.2 rfl)
      exact ⟨_, fun _ => ⟨N, M, h, rfl⟩⟩
  exact ⟨_, _, fun w => specLeastOf_any F p n b X w hF hb hX, fun w => implLeastOf_any F p n b X w hF hb hX⟩
end Go.Proofs.Ytnkkkgaojhkniab
