/- Walks: units and inverses modulo a modulus. -/
import Derived.Test.YtionaenmjndncaaE2
set_option linter.unusedVariables false
set_option linter.unusedSimpArgs false
namespace Go.Proofs.Ytionaenmjndncaa
open Go.RowKit

theorem eq_one_dec {p : Int} {D : List Int} (hD : P64 p D) {b : Bool} (h : decide (D = [1]) = b) {inst : Decidable (∀ i, i < 64 → cf D i = cf [1] i)} : @decide (∀ i, i < 64 → cf D i = cf [1] i) inst = b := by
  rw [← h]; refine decide_eq_decide.2 ⟨fun h => ?_, fun h i _ => by rw [h]⟩
  have := hD.pr.pos
  refine hD.po.ext (one_Po (by omega)) fun i => ?_
  by_cases hi : i < 64
  · exact h i hi
  · rw [cf_ge D i (by have := hD.le; omega), cf_ge [1] i (by simp; omega)]

set_option maxRecDepth 20000 in
set_option maxHeartbeats 2000000 in
theorem l02Unit_any (xs ys : List Int) (p : Int) (w : World) (hx : P64 p xs) (hy : P64 p ys) (hne : ys ≠ []) (b : Bool) (hb : decide ((bez p xs ys).1 = [1]) = b) :
    Calls Try.prog 42 #[.int .i64 p, .agg (u8s 64 (cf xs)), .agg (u8s 64 (cf ys))] w fun e w' => e = .returned (.bool b) ∧ Below w.heap.size w w' := by
  have hD := (bez_P64 hx hy (Or.inr hne)).1
  have hg := fun w => l01Gcd_any xs ys p w hx hy
  have hgc : gcdp p xs ys = (bez p xs ys).1 := if_neg fun h => hne h.2
  rw [hgc] at hg
  obtain ⟨D, hDD⟩ : ∃ D, (bez p xs ys).1 = D := ⟨_, rfl⟩
  rw [hDD] at hD hb hg
  have hgH := Lib.hid hg
  have hDH := Lib.hid hD
  have hbH := Lib.hid hb
  clear hD hg hgc hDD hx hy hne hb
  obtain ⟨hb, hA, hB⟩ := boxes2 w (u8s 64 (cf xs)) (u8s 64 (cf ys)) 26 26
  go_enter Try.func42, Try.ntmps42
  go_wp2_with ((with_reducible refine wpl_guard ?_); first | (refine wpl_load_arr rfl 26 _ rfl _ rfl _ _ hA _ _ uPoly sPoly ?_) | (refine wpl_load_arr rfl 26 _ rfl _ rfl _ _ hB _ _ uPoly sPoly ?_))
  refine (hgH.out _).mono ?_
  rintro e u1 ⟨rfl, hn⟩
  replace hA := hA.keep hn
  replace hB := hB.keep hn
  replace hb := below_step hb hn
  clear hn
  go_wp2_with ((with_reducible refine wpl_guard ?_); first | (refine wpl_load_arr rfl 26 _ rfl _ rfl _ _ hA _ _ uPoly sPoly ?_) | (refine wpl_load_arr rfl 26 _ rfl _ rfl _ _ hB _ _ uPoly sPoly ?_))
  refine (l01One_any _).mono ?_
  rintro e u2 ⟨rfl, hn⟩
  replace hA := hA.keep hn
  replace hB := hB.keep hn
  replace hb := below_step hb hn
  clear hn
  go_wp2_with ((with_reducible refine wpl_guard ?_); first | (refine wpl_eql_arr rfl 26 _ _ _ rfl 64 .u8 (cf D) (cf [1]) 5 rfl rfl uPoly uByte sByte gPoly _ (eq_one_dec hDH.out hbH.out) ?_))
  go_ret
  exact ⟨rfl, hb⟩

set_option maxRecDepth 20000 in
set_option maxHeartbeats 2000000 in
theorem l02Inverse_any (xs ys : List Int) (p : Int) (w : World) (hx : P64 p xs) (hy : P64 p ys) (hne : ys ≠ []) :
    Calls Try.prog 43 #[.int .i64 p, .agg (u8s 64 (cf xs)), .agg (u8s 64 (cf ys))] w fun e w' => e = .returned (.agg (u8s 64 (cf (rst p (bez p (rst p xs ys) ys).2.1 ys)))) ∧ Below w.heap.size w w' := by
  have hr := rst_P64 hx hy hne
  obtain ⟨hq1, hq2, hq3⟩ := bez_P64 hr hy (Or.inr hne)
  have h1 := fun w => l01Mod_any xs ys p w hx hy hne
  have h2 := fun w => l01Bezout_any (rst p xs ys) ys p w hr hy (Or.inr hne)
  have h3 := fun w => l01Mod_any (bez p (rst p xs ys) ys).2.1 ys p w hq2 hy hne
  obtain ⟨R, hR⟩ : ∃ R, rst p xs ys = R := ⟨_, rfl⟩
  rw [hR] at h1 h2 h3 hq1 hq2 hq3
  rw [hR]
  obtain ⟨D1, hD1⟩ : ∃ D, (bez p R ys).1 = D := ⟨_, rfl⟩
  obtain ⟨D2, hD2⟩ : ∃ D, (bez p R ys).2.1 = D := ⟨_, rfl⟩
  obtain ⟨D3, hD3⟩ : ∃ D, (bez p R ys).2.2 = D := ⟨_, rfl⟩
  rw [hD1, hD2, hD3] at h2
  rw [hD2] at h3
  rw [hD2]
  obtain ⟨M, hM⟩ : ∃ M, rst p D2 ys = M := ⟨_, rfl⟩
  rw [hM] at h3
  rw [hM]
  have k1 := Lib.hid h1
  have k2 := Lib.hid h2
  have k3 := Lib.hid h3
  clear h1 h2 h3 hr hq1 hq2 hq3 hR hD1 hD2 hD3 hM hx hy hne
  obtain ⟨hb, hA, hB, hE⟩ := boxes3 w (u8s 64 (cf xs)) (u8s 64 (cf ys)) (u8s 64 fun _ => 0) 26 26 26
  go_enter Try.func43, Try.ntmps43
  go_upto_region 1 with ((with_reducible refine wpl_guard ?_); first | (refine wpl_alloc_arr rfl 26 rfl _ zPoly ?_))
  refine law_region2 (by kernel_rfl) (by kernel_rfl) (by kernel_rfl) (by kernel_rfl)
      (fun i => ([some (.int .i64 p), some (.int .i64 p), some (.agg (u8s 64 (cf xs))), some (.agg (u8s 64 (cf ys))), some (.agg (u8s 64 (cf R))), some (.agg (u8s 64 (cf ys))), some (.tuple #[.agg (u8s 64 (cf D1)), .agg (u8s 64 (cf D2)), .agg (u8s 64 (cf D3))]), some (.tuple #[.agg (u8s 64 (cf D1)), .agg (u8s 64 (cf D2)), .agg (u8s 64 (cf D3))]), some (.agg (u8s 64 (cf D1))), some (.agg (u8s 64 (cf D2))), some (.agg (u8s 64 (cf D3))), none, none, none, none, none, none] : List (Option Value)).getD i none) 3 (fun k => [11, 12, 13].getD k 0) (fun k => [14, 15, 16].getD k 0) (fun k => [8, 9, 10].getD k 0) (fun k => [7, 8, 9].getD k 0) (fun k => [18, 19, 20].getD k 0) (fun k => [64, 64, 64].getD k 0) (fun k => [(cf D1), (cf D2), (cf D3)].getD k (fun _ => 0)) (fun k => [26, 26, 26].getD k 0) ?_ ?_ ?_ ?_ ?_ ?_
  · intro i hi
    rcases i with _|_|_|_|_|_|_|_|_|_|_|_|_|_|_|_|_|i
    · exact .inl ⟨_, rfl⟩
    · exact .inl ⟨_, rfl⟩
    · exact .inl ⟨_, rfl⟩
    · exact .inl ⟨_, rfl⟩
    · exact .inl ⟨_, rfl⟩
    · exact .inl ⟨_, rfl⟩
    · exact .inl ⟨_, rfl⟩
    · exact .inl ⟨_, rfl⟩
    · exact .inl ⟨_, rfl⟩
    · exact .inl ⟨_, rfl⟩
    · exact .inl ⟨_, rfl⟩
    · exact .inr (.inl ⟨0, by decide, rfl⟩)
    · exact .inr (.inl ⟨1, by decide, rfl⟩)
    · exact .inr (.inl ⟨2, by decide, rfl⟩)
    · exact .inr (.inr ⟨0, by decide, rfl⟩)
    · exact .inr (.inr ⟨1, by decide, rfl⟩)
    · exact .inr (.inr ⟨2, by decide, rfl⟩)
    · simp only [List.length_cons, List.length_nil] at hi; omega
  · intro k hk
    rcases k with _|_|_|k
    · exact ⟨rfl, rfl, rfl, zPoly⟩
    · exact ⟨rfl, rfl, rfl, zPoly⟩
    · exact ⟨rfl, rfl, rfl, zPoly⟩
    · omega
  · intro k hk k' hk'
    rcases k with _|_|_|k
    all_goals rcases k' with _|_|_|k'
    all_goals first | omega | exact ⟨by decide, by decide, by decide⟩
  · intro k hk
    rcases k with _|_|_|k
    · kernel_rfl
    · kernel_rfl
    · kernel_rfl
    · omega
  · intro i o c ho hc a z2 hBw hrd hpar
    rcases i with _|_|_|_|_|_|_|_|_|_|_|_|_|_|_|_|_|i
    · obtain rfl := Option.some.inj ho
      obtain rfl := Option.some.inj hc
      exact wp_move _ (.int .i64 p) rfl (hpar 0 _ (by kernel_rfl) (by kernel_rfl))
    · obtain rfl := Option.some.inj ho
      obtain rfl := Option.some.inj hc
      exact wp_move _ (.int .i64 p) rfl (hpar 0 _ (by kernel_rfl) (by kernel_rfl))
    · obtain rfl := Option.some.inj ho
      obtain rfl := Option.some.inj hc
      exact wp_loadB 26 _ rfl _ (hpar 4 (.pointer (some ⟨w.heap.size, 0, none⟩)) (by kernel_rfl) (by kernel_rfl)) _ _ (hA.keep hBw) _ _ uPoly sPoly
    · obtain rfl := Option.some.inj ho
      obtain rfl := Option.some.inj hc
      exact wp_loadB 26 _ rfl _ (hpar 5 (.pointer (some ⟨w.heap.size + 1, 0, none⟩)) (by kernel_rfl) (by kernel_rfl)) _ _ (hB.keep hBw) _ _ uPoly sPoly
    · obtain rfl := Option.some.inj ho
      obtain rfl := Option.some.inj hc
      exact wp_callB 48 [.tmp 12, .tmp 13, .tmp 14] _ rfl [.int .i64 p, .agg (u8s 64 (cf xs)), .agg (u8s 64 (cf ys))] (by simp only [List.map_cons, List.map_nil, (hrd 1 _ _ 12 rfl rfl rfl (by kernel_rfl) (by kernel_rfl)), (hrd 2 _ _ 13 rfl rfl rfl (by kernel_rfl) (by kernel_rfl)), (hrd 3 _ _ 14 rfl rfl rfl (by kernel_rfl) (by kernel_rfl))]) Try.call48 _ (k1.out z2)
    · obtain rfl := Option.some.inj ho
      obtain rfl := Option.some.inj hc
      exact wp_loadB 26 _ rfl _ (hpar 5 (.pointer (some ⟨w.heap.size + 1, 0, none⟩)) (by kernel_rfl) (by kernel_rfl)) _ _ (hB.keep hBw) _ _ uPoly sPoly
    · obtain rfl := Option.some.inj ho
      obtain rfl := Option.some.inj hc
      exact wp_callB 81 [.tmp 11, .tmp 15, .tmp 16] _ rfl [.int .i64 p, .agg (u8s 64 (cf R)), .agg (u8s 64 (cf ys))] (by simp only [List.map_cons, List.map_nil, (hrd 0 _ _ 11 rfl rfl rfl (by kernel_rfl) (by kernel_rfl)), (hrd 4 _ _ 15 rfl rfl rfl (by kernel_rfl) (by kernel_rfl)), (hrd 5 _ _ 16 rfl rfl rfl (by kernel_rfl) (by kernel_rfl))]) Try.call81 _ (k2.out z2)
    · obtain rfl := Option.some.inj ho
      obtain rfl := Option.some.inj hc
      exact wp_move _ (.tuple #[.agg (u8s 64 (cf D1)), .agg (u8s 64 (cf D2)), .agg (u8s 64 (cf D3))]) rfl (hrd 6 _ _ 17 rfl rfl rfl (by kernel_rfl) (by kernel_rfl))
    · obtain rfl := Option.some.inj ho
      obtain rfl := Option.some.inj hc
      exact wp_extract _ 0 #[.agg (u8s 64 (cf D1)), .agg (u8s 64 (cf D2)), .agg (u8s 64 (cf D3))] _ rfl (hrd 7 _ _ 10 rfl rfl rfl (by kernel_rfl) (by kernel_rfl)) rfl
    · obtain rfl := Option.some.inj ho
      obtain rfl := Option.some.inj hc
      exact wp_extract _ 1 #[.agg (u8s 64 (cf D1)), .agg (u8s 64 (cf D2)), .agg (u8s 64 (cf D3))] _ rfl (hrd 7 _ _ 10 rfl rfl rfl (by kernel_rfl) (by kernel_rfl)) rfl
    · obtain rfl := Option.some.inj ho
      obtain rfl := Option.some.inj hc
      exact wp_extract _ 2 #[.agg (u8s 64 (cf D1)), .agg (u8s 64 (cf D2)), .agg (u8s 64 (cf D3))] _ rfl (hrd 7 _ _ 10 rfl rfl rfl (by kernel_rfl) (by kernel_rfl)) rfl
    · cases hc
    · cases hc
    · cases hc
    · cases hc
    · cases hc
    · cases hc
    · cases hc
  intro vals xT hBw hc hr
  have e0 : vals 0 = .int .i64 p := hc 0 _ (by simp) rfl
  have e1 : vals 1 = .int .i64 p := hc 1 _ (by simp) rfl
  have e2 : vals 2 = .agg (u8s 64 (cf xs)) := hc 2 _ (by simp) rfl
  have e3 : vals 3 = .agg (u8s 64 (cf ys)) := hc 3 _ (by simp) rfl
  have e4 : vals 4 = .agg (u8s 64 (cf R)) := hc 4 _ (by simp) rfl
  have e5 : vals 5 = .agg (u8s 64 (cf ys)) := hc 5 _ (by simp) rfl
  have e6 : vals 6 = .tuple #[.agg (u8s 64 (cf D1)), .agg (u8s 64 (cf D2)), .agg (u8s 64 (cf D3))] := hc 6 _ (by simp) rfl
  have e7 : vals 7 = .tuple #[.agg (u8s 64 (cf D1)), .agg (u8s 64 (cf D2)), .agg (u8s 64 (cf D3))] := hc 7 _ (by simp) rfl
  have e8 : vals 8 = .agg (u8s 64 (cf D1)) := hc 8 _ (by simp) rfl
  have e9 : vals 9 = .agg (u8s 64 (cf D2)) := hc 9 _ (by simp) rfl
  have e10 : vals 10 = .agg (u8s 64 (cf D3)) := hc 10 _ (by simp) rfl
  obtain ⟨gT0, p0, hgT0, hT0⟩ : ∃ g, vals 11 = .pointer (some ⟨g, 0, none⟩) ∧ _ ≤ g ∧ Blk xT g (u8s 64 (cf D1)) 26 := hr 0 (by decide)
  obtain ⟨gT1, p1, hgT1, hT1⟩ : ∃ g, vals 12 = .pointer (some ⟨g, 0, none⟩) ∧ _ ≤ g ∧ Blk xT g (u8s 64 (cf D2)) 26 := hr 1 (by decide)
  obtain ⟨gT2, p2, hgT2, hT2⟩ : ∃ g, vals 13 = .pointer (some ⟨g, 0, none⟩) ∧ _ ≤ g ∧ Blk xT g (u8s 64 (cf D3)) 26 := hr 2 (by decide)
  simp only [List.length_cons, List.length_nil, Nat.zero_add, Nat.reduceAdd, List.replicate, putAll, if_true, Act.put, List.setIfInBounds_toArray, List.set_cons_zero, List.set_cons_succ, e0, e1, e2, e3, e4, e5, e6, e7, e8, e9, e10, p0, p1, p2]
  replace hA := hA.keep hBw
  replace hB := hB.keep hBw
  replace hE := hE.keep hBw
  replace hb := below_step hb hBw
  clear hc hr e0 e1 e2 e3 e4 e5 e6 e7 e8 e9 e10 p0 p1 p2
  clear hBw
  go_wp2_with ((with_reducible refine wpl_guard ?_); first | (refine wpl_load_arr rfl 26 _ rfl _ rfl _ _ hT1 _ _ uPoly sPoly ?_) | (refine wpl_load_arr rfl 26 _ rfl _ rfl _ _ hB _ _ uPoly sPoly ?_))
  refine (k3.out _).mono ?_
  rintro e u1 ⟨rfl, hn⟩
  replace hA := hA.keep hn
  replace hB := hB.keep hn
  replace hE := hE.keep hn
  replace hb := below_step hb hn
  clear hn
  go_wp2_with ((with_reducible refine wpl_guard ?_); first | (refine wpl_store_arr rfl 26 _ _ rfl _ rfl _ rfl _ _ hE sPoly (by simp only [u8s_size]) (u8s_oneCell _ _) ?_))
  exact bodyPost_ret (res_c rfl rfl (hE.setRow_same (cs := u8s 64 (cf M))) uPoly sPoly) rfl ⟨rfl, below_setRow hb (by omega) _⟩
end Go.Proofs.Ytionaenmjndncaa
