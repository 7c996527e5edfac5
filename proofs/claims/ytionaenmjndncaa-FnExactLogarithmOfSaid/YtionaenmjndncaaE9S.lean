/- Walks: logarithms, the reference. -/
import Derived.Test.YtionaenmjndncaaE9
set_option linter.unusedVariables false
set_option linter.unusedSimpArgs false
namespace Go.Proofs.Ytionaenmjndncaa
open Go.RowKit

theorem exists_least (P : Nat → Prop) : (∃ k, P k) → ∃ k, P k ∧ ∀ j, j < k → ¬ P j := by
  rintro ⟨k, hk⟩
  induction k using Nat.strongRecOn with
  | _ k ih =>
    by_cases h : ∃ j, j < k ∧ P j
    · obtain ⟨j, h1, h2⟩ := h
      exact ih j h1 h2
    · exact ⟨k, hk, fun j hj hp => h ⟨j, hj, hp⟩⟩
/-- The place of the first power that is wanted. -/
structure LgR (p : Int) (base m want : List Int) (N : Nat) (r : Option Nat) : Prop where
  yes : ∀ k, r = some k → k < N ∧ lgs p base m k = want ∧ ∀ j, j < k → lgs p base m j ≠ want
  no : r = none → ∀ k, k ≤ N → lgs p base m k ≠ want
theorem LgR.hit {p : Int} {base m want : List Int} {N : Nat} {r : Option Nat} (h : LgR p base m want N r) {k : Nat} (hk : k ≤ N) (h1 : lgs p base m k = want) (h2 : ∀ j, j < k → lgs p base m j ≠ want) : r = some k := by
  cases r with
  | none => exact absurd h1 (h.no rfl k hk)
  | some k' =>
    obtain ⟨a, b, c⟩ := h.yes k' rfl
    by_cases e : k' < k
    · exact absurd b (h2 k' e)
    · by_cases e2 : k < k'
      · exact absurd h1 (c k e2)
      · congr 1; omega
theorem LgR.end {p : Int} {base m want : List Int} {N : Nat} {r : Option Nat} (h : LgR p base m want N r) (h2 : ∀ j, j < N → lgs p base m j ≠ want) : r = none := by
  cases r with
  | none => rfl
  | some k' =>
    obtain ⟨a, b, c⟩ := h.yes k' rfl
    exact absurd b (h2 k' a)
theorem LgR.is {p : Int} (hp : Pr p) {base m want : List Int} (hm : Po p m) (h2 : 2 ≤ m.length) {N : Nat} (hN : (N : Int) = p ^ (m.length - 1)) : ∃ r, LgR p base m want N r := by
  by_cases h : ∃ k, k < N ∧ lgs p base m k = want
  · obtain ⟨k, ⟨h1, h3⟩, h4⟩ := exists_least _ h
    exact ⟨some k, ⟨fun k' e => by cases e; exact ⟨h1, h3, fun j hj e => h4 j hj ⟨by omega, e⟩⟩, fun e => nomatch e⟩⟩
  · refine ⟨none, ⟨(fun k' e => by cases e), fun _ k hk e => ?_⟩⟩
    by_cases e2 : k = N
    · obtain ⟨k2, h5, h6⟩ := lgs_last (base := base) hp hm h2 N hN
      exact h ⟨k2, h5, by rw [h6, ← e2]; exact e⟩
    · exact h ⟨k, by omega, e⟩
def lgA (b c : Bool) (r : Option Nat) : Int := if b then (if c then (match r with | some k => (k : Int) | none => 0) else 0) else 0
def lgC (b c : Bool) (r : Option Nat) : Int := if b then (if c then (match r with | some _ => 0 | none => 4) else 2) else 1

set_option maxRecDepth 20000 in
set_option maxHeartbeats 2000000 in
theorem specLogarithmOf_any (f0 f1 f2 : Nat → Int) (p : Int) (b c : Bool) (r : Option Nat) (w : World) (h0 : By f0) (h1 : By f1) (h2 : By f2) (hb : Good p [f2, f0, f1] ↔ b = true) (hc : decide (Mon (mkp 64 f2)) = c) (hr : b = true → c = true → LgR p (rst p (mkp 64 f1) (mkp 64 f2)) (mkp 64 f2) (rst p (mkp 64 f0) (mkp 64 f2)) ((p ^ ((mkp 64 f2).length - 1)).toNat) r) :
    Calls Try.prog 22 #[.int .i64 p, .agg (u8s 64 f0), .agg (u8s 64 f1), .agg (u8s 64 f2)] w fun e w' => e = .returned (.tuple #[.int .i64 (lgA b c r), .int .i64 (lgC b c r)]) ∧ Below w.heap.size w w' := by
  have h0H := Lib.hid h0
  have h1H := Lib.hid h1
  have h2H := Lib.hid h2
  have hbH := Lib.hid hb
  have hcH := Lib.hid hc
  have hrH := Lib.hid hr
  clear h0 h1 h2 hb hc hr
  obtain ⟨hb, hA, hB, hD⟩ := boxes3 w (u8s 64 f0) (u8s 64 f1) (u8s 64 f2) 26 26 26
  go_enter Try.func22, Try.ntmps22
  go_wp2_with ((with_reducible refine wpl_guard ?_); first | (refine wpl_load_arr rfl 26 _ rfl _ rfl _ _ hA _ _ uPoly sPoly ?_) | (refine wpl_load_arr rfl 26 _ rfl _ rfl _ _ hB _ _ uPoly sPoly ?_) | (refine wpl_load_arr rfl 26 _ rfl _ rfl _ _ hD _ _ uPoly sPoly ?_) | (refine wpl_buildSlice_polys rfl 75 26 2 _ rfl Try.underlying75 sPoly zPoly [f0, f1] rfl (by decide) (by decide) rfl ?_))
  refine (l02Modulus_lit f2 [f0, f1] 2 128 rfl rfl (by omega) p _ _ _ (Blk.newAt (by simp) _ _) h2H.out (by2 h0H.out h1H.out) b c hbH.out hcH.out).mono ?_
  rintro e u0 ⟨rfl, hn⟩
  replace hA := (hA.alloc _).keep hn
  replace hB := (hB.alloc _).keep hn
  replace hD := (hD.alloc _).keep hn
  replace hb := below_step hb (below_step (below_new _ _) hn)
  clear hn
  cases b
  · go_wp2_with fail
    go_ret2
    exact ⟨rfl, hb⟩
  cases c
  · go_wp2_with fail
    go_ret2
    exact ⟨rfl, hb⟩
  rw [show modC true true = 0 from rfl]
  have hG := hbH.out.2 (by first | rfl | trivial)
  have hx0 : P64 p (mkp 64 f0) := hG.p64 (f := f0) (by simp) h0H.out
  have hx1 : P64 p (mkp 64 f1) := hG.p64 (f := f1) (by simp) h1H.out
  have hx2 : P64 p (mkp 64 f2) := hG.p64 (f := f2) (by simp) h2H.out
  have m2 := of_decide_eq_true hcH.out
  have n2 := m2.ne
  have hr := hrH.out (by first | rfl | trivial) (by first | rfl | trivial)
  have ea := u8s_mkp f0
  have eg := u8s_mkp f1
  have em := u8s_mkp f2
  obtain ⟨aa, ha⟩ : ∃ a, mkp 64 f0 = a := ⟨_, rfl⟩
  obtain ⟨gg, hg⟩ : ∃ a, mkp 64 f1 = a := ⟨_, rfl⟩
  obtain ⟨mm, hm⟩ : ∃ a, mkp 64 f2 = a := ⟨_, rfl⟩
  rw [ha] at hx0 hr ea
  rw [hg] at hx1 hr eg
  rw [hm] at hx2 m2 n2 hr em
  rw [ea] at hA
  rw [eg] at hB
  rw [em] at hD
  obtain ⟨W, hW⟩ : ∃ W, rst p aa mm = W := ⟨_, rfl⟩
  obtain ⟨V, hV⟩ : ∃ W, rst p gg mm = W := ⟨_, rfl⟩
  have hWP : P64 p W := hW ▸ rst_P64 hx0 hx2 n2
  have hVP : P64 p V := hV ▸ rst_P64 hx1 hx2 n2
  rw [hW, hV] at hr
  have hp2 := hx0.pr.pos
  obtain ⟨d, hd⟩ : ∃ d, mm.length = d + 1 := ⟨mm.length - 1, by have := m2.2.1; omega⟩
  have hd5 : d ≤ 5 := by have := m2.2.2; omega
  have hpw1 := ipow_pos hp2.1 d
  have hpw2 := ipow_le7 hx0.pr d
  have hpw3 : (7 : Int) ^ d ≤ 7 ^ 5 := ipow_mono (by omega) hd5
  have hpw4 : (7 : Int) ^ 5 = 16807 := by decide
  obtain ⟨N, hN⟩ : ∃ N : Nat, p ^ d = (N : Int) := Int.eq_ofNat_of_zero_le (by omega)
  rw [hd, Nat.add_sub_cancel, hN, Int.toNat_natCast] at hr
  have hNb : N ≤ 16807 := by omega
  have hlg := fun k => lgs_ok (base := V) hx0.pr hx2.po m2.2.1 k
  have hlgP : ∀ k, P64 p (lgs p V mm k) := fun k => ⟨hx0.pr, (hlg k).1, by have := (hlg k).2; have := m2.2.2; omega⟩
  have s1 := fun w => l01Mod_any aa mm p w hx0 hx2 n2
  rw [hW] at s1
  have s2 := fun w => l01Mod_any gg mm p w hx1 hx2 n2
  rw [hV] at s2
  have s3 := fun w => l01Deg_list p mm w hx2
  rw [hd, show ((d + 1 : Nat) : Int) - 1 = (d : Int) by omega] at s3
  have s4 := fun w => l01Count_any p d w hp2.1 (by omega) (by omega)
  rw [hN] at s4
  have s5 := fun k w => l01MulMod_any (lgs p V mm k) V mm p w (hlgP k) hVP hx2 n2
  have s6 : ∀ k (b : Bool), decide (lgs p V mm k = W) = b → ∀ {inst : Decidable (∀ i, i < 64 → cf (lgs p V mm k) i = cf W i)}, @decide (∀ i, i < 64 → cf (lgs p V mm k) i = cf W i) inst = b := fun k b hb inst => by
    rw [← hb]; refine decide_eq_decide.2 ⟨fun h => (hlgP k).po.ext hWP.po fun i => ?_, fun h i _ => by rw [h]⟩
    by_cases hi : i < 64
    · exact h i hi
    · rw [cf_ge _ i (by have := (hlgP k).le; omega), cf_ge W i (by have := hWP.le; omega)]
  have k1 := Lib.hid s1
  have k2 := Lib.hid s2
  have k3 := Lib.hid s3
  have k4 := Lib.hid s4
  have k5 := Lib.hid s5
  have k6 := Lib.hid @s6
  have hrr := Lib.hid hr
  have hDl := hD.lt
  clear s1 s2 s3 s4 s5 s6 hr hlg hlgP hpw1 hpw2 hpw3 hpw4 hN hd hd5 hW hV hWP hVP hx0 hx1 hx2 m2 n2 ha hg hm ea eg em hG hbH hcH hrH
  go_upto_region 4 with (fail)
  refine law_region3 (by kernel_rfl) (by kernel_rfl) (by kernel_rfl) (by kernel_rfl)
      (fun i => ([some (.int .i64 p), some (.agg (u8s 64 (cf aa))), some (.agg (u8s 64 (cf mm))), some (.agg (u8s 64 (cf W))), some (.int .i64 p), some (.agg (u8s 64 (cf gg))), some (.agg (u8s 64 (cf mm))), some (.agg (u8s 64 (cf V))), some (.agg (u8s 64 (cf [1]))), none, none, none, none, none, none] : List (Option Value)).getD i none) 3 (fun k => [9, 10, 11].getD k 0) (fun k => [12, 13, 14].getD k 0) (fun k => [3, 7, 8].getD k 0) (fun k => [11, 12, 13].getD k 0) (fun k => [27, 31, 32].getD k 0) (fun k => [64, 64, 64].getD k 0) (fun k => [(cf W), (cf V), (cf [1])].getD k (fun _ => 0)) (fun k => [26, 26, 26].getD k 0) ?_ ?_ ?_ ?_ ?_ ?_
  · intro i hi
    rcases i with _|_|_|_|_|_|_|_|_|_|_|_|_|_|_|i
    · exact .inl ⟨_, rfl⟩
    · exact .inl ⟨_, rfl⟩
    · exact .inl ⟨_, rfl⟩
    · exact .inl ⟨_, rfl⟩
    · exact .inl ⟨_, rfl⟩
    · exact .inl ⟨_, rfl⟩
    · exact .inl ⟨_, rfl⟩
    · exact .inl ⟨_, rfl⟩
    · exact .inl ⟨_, rfl⟩
    · exact .inr (.inl ⟨0, by decide, rfl⟩)
    · exact .inr (.inl ⟨1, by decide, rfl⟩)
    · exact .inr (.inl ⟨2, by decide, rfl⟩)
    · exact .inr (.inr ⟨0, by decide, rfl⟩)
    · exact .inr (.inr ⟨1, by decide, rfl⟩)
    · exact .inr (.inr ⟨2, by decide, rfl⟩)
    · simp only [List.length_cons, List.length_nil] at hi; omega
  · intro k hk
    rcases k with _|_|_|k
    · exact ⟨rfl, rfl, rfl, zPoly⟩
    · exact ⟨rfl, rfl, rfl, zPoly⟩
    · exact ⟨rfl, rfl, rfl, zPoly⟩
    · omega
  · intro k hk k' hk'
    rcases k with _|_|_|k
    all_goals rcases k' with _|_|_|k'
    all_goals first | omega | exact ⟨by decide, by decide, by decide⟩
  · intro k hk
    rcases k with _|_|_|k
    · kernel_rfl
    · kernel_rfl
    · kernel_rfl
    · omega
  · intro i o c ho hc a z2 hBw hrd hpar
    rcases i with _|_|_|_|_|_|_|_|_|_|_|_|_|_|_|i
    · obtain rfl := Option.some.inj ho
      obtain rfl := Option.some.inj hc
      exact wp_move _ (.int .i64 p) rfl (hpar 0 _ (by kernel_rfl) (by kernel_rfl))
    · obtain rfl := Option.some.inj ho
      obtain rfl := Option.some.inj hc
      exact wp_loadB 26 _ rfl _ (hpar 5 (.pointer (some ⟨w.heap.size, 0, none⟩)) (by kernel_rfl) (by kernel_rfl)) _ _ (hA.keep hBw) _ _ uPoly sPoly
    · obtain rfl := Option.some.inj ho
      obtain rfl := Option.some.inj hc
      exact wp_loadB 26 _ rfl _ (hpar 7 (.pointer (some ⟨w.heap.size + 1 + 1, 0, none⟩)) (by kernel_rfl) (by kernel_rfl)) _ _ (hD.keep hBw) _ _ uPoly sPoly
    · obtain rfl := Option.some.inj ho
      obtain rfl := Option.some.inj hc
      exact wp_callB 48 [.tmp 24, .tmp 25, .tmp 26] _ rfl [.int .i64 p, .agg (u8s 64 (cf aa)), .agg (u8s 64 (cf mm))] (by simp only [List.map_cons, List.map_nil, (hrd 0 _ _ 24 rfl rfl rfl (by kernel_rfl) (by kernel_rfl)), (hrd 1 _ _ 25 rfl rfl rfl (by kernel_rfl) (by kernel_rfl)), (hrd 2 _ _ 26 rfl rfl rfl (by kernel_rfl) (by kernel_rfl))]) Try.call48 _ (k1.out z2)
    · obtain rfl := Option.some.inj ho
      obtain rfl := Option.some.inj hc
      exact wp_move _ (.int .i64 p) rfl (hpar 0 _ (by kernel_rfl) (by kernel_rfl))
    · obtain rfl := Option.some.inj ho
      obtain rfl := Option.some.inj hc
      exact wp_loadB 26 _ rfl _ (hpar 6 (.pointer (some ⟨w.heap.size + 1, 0, none⟩)) (by kernel_rfl) (by kernel_rfl)) _ _ (hB.keep hBw) _ _ uPoly sPoly
    · obtain rfl := Option.some.inj ho
      obtain rfl := Option.some.inj hc
      exact wp_loadB 26 _ rfl _ (hpar 7 (.pointer (some ⟨w.heap.size + 1 + 1, 0, none⟩)) (by kernel_rfl) (by kernel_rfl)) _ _ (hD.keep hBw) _ _ uPoly sPoly
    · obtain rfl := Option.some.inj ho
      obtain rfl := Option.some.inj hc
      exact wp_callB 48 [.tmp 28, .tmp 29, .tmp 30] _ rfl [.int .i64 p, .agg (u8s 64 (cf gg)), .agg (u8s 64 (cf mm))] (by simp only [List.map_cons, List.map_nil, (hrd 4 _ _ 28 rfl rfl rfl (by kernel_rfl) (by kernel_rfl)), (hrd 5 _ _ 29 rfl rfl rfl (by kernel_rfl) (by kernel_rfl)), (hrd 6 _ _ 30 rfl rfl rfl (by kernel_rfl) (by kernel_rfl))]) Try.call48 _ (k2.out z2)
    · obtain rfl := Option.some.inj ho
      obtain rfl := Option.some.inj hc
      exact wp_callB 49 [] _ rfl [] (by simp only [List.map_cons, List.map_nil, ]) Try.call49 _ (l01One_any z2)
    · cases hc
    · cases hc
    · cases hc
    · cases hc
    · cases hc
    · cases hc
    · cases hc
  intro vals xT hBw hc hr hne
  have e0 : vals 0 = .int .i64 p := hc 0 _ (by simp) rfl
  have e1 : vals 1 = .agg (u8s 64 (cf aa)) := hc 1 _ (by simp) rfl
  have e2 : vals 2 = .agg (u8s 64 (cf mm)) := hc 2 _ (by simp) rfl
  have e3 : vals 3 = .agg (u8s 64 (cf W)) := hc 3 _ (by simp) rfl
  have e4 : vals 4 = .int .i64 p := hc 4 _ (by simp) rfl
  have e5 : vals 5 = .agg (u8s 64 (cf gg)) := hc 5 _ (by simp) rfl
  have e6 : vals 6 = .agg (u8s 64 (cf mm)) := hc 6 _ (by simp) rfl
  have e7 : vals 7 = .agg (u8s 64 (cf V)) := hc 7 _ (by simp) rfl
  have e8 : vals 8 = .agg (u8s 64 (cf [1])) := hc 8 _ (by simp) rfl
  obtain ⟨gT0, p0, hgT0, hT0⟩ : ∃ g, vals 9 = .pointer (some ⟨g, 0, none⟩) ∧ _ ≤ g ∧ Blk xT g (u8s 64 (cf W)) 26 := hr 0 (by decide)
  obtain ⟨gT1, p1, hgT1, hT1⟩ : ∃ g, vals 10 = .pointer (some ⟨g, 0, none⟩) ∧ _ ≤ g ∧ Blk xT g (u8s 64 (cf V)) 26 := hr 1 (by decide)
  obtain ⟨gT2, p2, hgT2, hT2⟩ : ∃ g, vals 11 = .pointer (some ⟨g, 0, none⟩) ∧ _ ≤ g ∧ Blk xT g (u8s 64 (cf [1])) 26 := hr 2 (by decide)
  simp only [List.length_cons, List.length_nil, Nat.zero_add, Nat.reduceAdd, List.replicate, putAll, if_true, Act.put, List.setIfInBounds_toArray, List.set_cons_zero, List.set_cons_succ, e0, e1, e2, e3, e4, e5, e6, e7, e8, p0, p1, p2]
  replace hD := hD.keep hBw
  replace hb := below_step hb hBw
  have hdT01 : gT0 ≠ gT1 := fun h => hne 0 1 (by decide) (by decide) (by decide) (by show vals 9 = vals 10; rw [p0, p1, h])
  have hdT02 : gT0 ≠ gT2 := fun h => hne 0 2 (by decide) (by decide) (by decide) (by show vals 9 = vals 11; rw [p0, p2, h])
  have hdT12 : gT1 ≠ gT2 := fun h => hne 1 2 (by decide) (by decide) (by decide) (by show vals 10 = vals 11; rw [p1, p2, h])
  clear hne
  clear hc hr e0 e1 e2 e3 e4 e5 e6 e7 e8 p0 p1 p2
  clear hBw
  have hD1 := hD.lt
  have hT2' : Blk xT gT2 (u8s 64 (cf (lgs p V mm 0))) 26 := hT2
  have hgT2b : w.heap.size ≤ gT2 := by omega
  have hgD : w.heap.size + 1 + 1 ≠ gT2 := by omega
  clear hT2 hA hB hgT0 hgT1 hgT2 hD1 hDl
  go_wp2_with fail
  go_loopw [14] (fun i wr => ∃ k : Nat, k ≤ N + 1 ∧ i = .int .i64 k ∧ Blk wr (w.heap.size + 1 + 1) (u8s 64 (cf mm)) 26 ∧ Blk wr gT0 (u8s 64 (cf W)) 26 ∧ Blk wr gT1 (u8s 64 (cf V)) 26 ∧ Blk wr gT2 (u8s 64 (cf (lgs p V mm k))) 26 ∧ (∀ j, j < k → lgs p V mm j ≠ W) ∧ Below w.heap.size w wr) (fun i _ => N + 2 - (intOf i).toNat)
  case atStart => exact ⟨0, by omega, rfl, hD, hT0, hT1, hT2', fun j hj => absurd hj (by omega), hb⟩
  case round =>
    clear hD hT0 hT1 hT2' hb
    obtain ⟨k, hk, rfl, hD, hT0, hT1, hT2, hall, hb⟩ := hrel
    have hallH := Lib.hid hall
    clear hall
    go_wp2_with ((with_reducible refine wpl_guard ?_); first | (refine wpl_load_arr rfl 26 _ rfl _ rfl _ _ hD _ _ uPoly sPoly ?_))
    refine (k3.out _).mono ?_
    rintro e u1 ⟨rfl, hn⟩
    replace hD := hD.keep hn
    replace hT0 := hT0.keep hn
    replace hT1 := hT1.keep hn
    replace hT2 := hT2.keep hn
    replace hb := below_step hb hn
    clear hn
    go_wp2_with fail
    refine (k4.out _).mono ?_
    rintro e u2 ⟨rfl, rfl⟩
    by_cases hle : k ≤ N
    · have hle2 : (k : Int) ≤ (N : Int) := by omega
      by_cases heq : lgs p V mm k = W
      · have hres := hrr.out.hit hle heq hallH.out
        subst hres
        have heqH := Lib.hid heq
        clear heq
        go_wp2_with ((with_reducible refine wpl_guard ?_); first | (refine wpl_load_arr rfl 26 _ rfl _ rfl _ _ hT2 _ _ uPoly sPoly ?_) | (refine wpl_load_arr rfl 26 _ rfl _ rfl _ _ hT0 _ _ uPoly sPoly ?_) | (refine wpl_eql_arr rfl 26 _ _ _ rfl 64 .u8 (cf (lgs p V mm k)) (cf W) 5 rfl rfl uPoly uByte sByte gPoly _ (k6.out k true (decide_eq_true heqH.out)) ?_))
        go_ret2
        exact ⟨rfl, hb⟩
      · have heqH := Lib.hid heq
        clear heq
        go_wp2_with ((with_reducible refine wpl_guard ?_); first | (refine wpl_load_arr rfl 26 _ rfl _ rfl _ _ hT2 _ _ uPoly sPoly ?_) | (refine wpl_load_arr rfl 26 _ rfl _ rfl _ _ hT0 _ _ uPoly sPoly ?_) | (refine wpl_eql_arr rfl 26 _ _ _ rfl 64 .u8 (cf (lgs p V mm k)) (cf W) 5 rfl rfl uPoly uByte sByte gPoly _ (k6.out k false (decide_eq_false heqH.out)) ?_) | (refine wpl_load_arr rfl 26 _ rfl _ rfl _ _ hT1 _ _ uPoly sPoly ?_) | (refine wpl_load_arr rfl 26 _ rfl _ rfl _ _ hD _ _ uPoly sPoly ?_))
        refine (k5.out k _).mono ?_
        rintro e u3 ⟨rfl, hn⟩
        replace hD := hD.keep hn
        replace hT0 := hT0.keep hn
        replace hT1 := hT1.keep hn
        replace hT2 := hT2.keep hn
        replace hb := below_step hb hn
        clear hn
        go_wp2_with ((with_reducible refine wpl_guard ?_); first | (refine wpl_store_arr rfl 26 _ _ rfl _ rfl _ rfl _ _ hT2 sPoly (by simp only [u8s_size]) (u8s_oneCell _ _) ?_))
        go_roundw
        case rel => exact ⟨k + 1, by omega, by go_num, hD.setRow_other hgD, hT0.setRow_other hdT02, hT1.setRow_other hdT12, hT2.setRow_same, fun j hj => by
          by_cases e1 : j = k
          · subst e1; exact heqH.out
          · exact hallH.out j (by omega), below_setRow hb hgT2b _⟩
        case measure => simp [intOf] <;> omega
    · have hle2 : ¬ (k : Int) ≤ (N : Int) := by omega
      have hres := hrr.out.end fun j hj => hallH.out j (by omega)
      subst hres
      go_wp2_with fail
      go_ret2
      exact ⟨rfl, hb⟩
end Go.Proofs.Ytionaenmjndncaa
