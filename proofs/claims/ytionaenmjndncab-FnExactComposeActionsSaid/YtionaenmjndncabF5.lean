/- Walks: the binomials of a polynomial, the reference's side, second part. -/
import Derived.Test.YtionaenmjndncabF4
set_option linter.unusedVariables false
set_option linter.unusedSimpArgs false
namespace Go.Proofs.Ytionaenmjndncab
open Go.RowKit
section
variable {P : Program} {ops : Array Oper} {rest : List Oper} {o : Oper} {a : Act} {w : World} {Q : Exit → Act → World → Prop}
/-- One element is appended: where the row lies then. -/
theorem wpl_append_far (hw : Region.wanted o (yielded ops a.tmps) = true) (s x : Operand) (t : TypeId) (hop : o.op = .call { callee := .builtin .append, args := #[s, x], argTypes := #[t, t] })
    (base e : Nat) (z : Value) (size bytes : Nat) (ht : P.underlying t = some (.slice e)) (hinfo : (P.info? e).map (fun i => (i.zero, i.size, i.bytes)) = some (some z, size, bytes))
    (hzs : z.cells.size = size) (hsz : 0 < size) (hby : bytes ≤ 1024)
    (v : Value) (n : Nat) (xs : List Value) (hs : a.eval s = v) (hown : w.ownsRow base e size v n xs)
    (ad : Addr) (hx : a.eval x = .slice (some ad) 1 1) (news : List Value) (hl : news.length = size) (hc : ∀ j u, news[j]? = some u → w.cell? (ad.add j) = some u) (h1 : ∀ u ∈ news, u.oneCell' = true)
    (hn : n ≤ 100000000) (hbase : base ≤ w.heap.size)
    (h : ∀ v' w', w'.ownsRow base e size v' (n + 1) (xs ++ news) → w.grownBy w' v.ownBlock → (v'.ownBlock = v.ownBlock ∨ v'.ownBlock = some w.heap.size) → wpList P ops Q rest (a.put o.dst v') w') : wpList P ops Q (o :: rest) a w := by
  refine wpl_wanted hw fun K hK => ?_
  obtain ⟨i, hi, hz, hz1, hz2⟩ := info_parts hinfo
  have hb : (n + 1) * bytes ≤ 140737488355328 := by
    have : (n + 1) * bytes ≤ (n + 1) * 1024 := Nat.mul_le_mul_left _ hby
    omega
  have hl' : news.length = 1 * size := by omega
  obtain ⟨v', w', hr, h2, h3, _⟩ := run_append_own (P := P) w base t o.type e i z size bytes ht hi hz hz1 hz2 hzs hsz v n xs hown ad 1 1 news hl' hc h1 (by unfold maxLen; omega) hb hbase
  have hfar : v'.ownBlock = v.ownBlock ∨ v'.ownBlock = some w.heap.size := by
    subst hz1
    subst hz2
    rcases hown.2 with ⟨rfl, rfl⟩ | ⟨g, cap, cur, rfl, hbg, hg, hnc, hcm, hcs, htake⟩
    · have hr2 := run_append_nil (P := P) w t o.type e i z ht hi hz ad 1 1 news hl' hc (by omega) (by omega) (by have hb := hb; simp only [Nat.zero_add] at hb; omega)
      rw [hr] at hr2
      injection hr2 with e1 e2
      subst e1
      exact Or.inr rfl
    · by_cases hroom : n + 1 ≤ cap
      · have hfit : n * i.size + news.length ≤ cur.size := by rw [hl', hcs, ← Nat.add_mul]; exact Nat.mul_le_mul_right _ hroom
        have hr2 := run_append_room (P := P) w t o.type e i ht hi g n cap cur hg ad 1 1 news hl' hc h1 hroom hfit
        rw [hr] at hr2
        injection hr2 with e1 e2
        subst e1
        exact Or.inl rfl
      · have holds : ∀ j u, xs[j]? = some u → w.cell? ((⟨g, 0, none⟩ : Addr).add j) = some u := hown.cells (g := g) rfl
        have hr2 := run_append_grow (P := P) w t o.type e i z ht hi hz ⟨g, 0, none⟩ n cap xs hown.1 holds ad 1 1 news hl' hc (by omega) (by omega) (growslice_fits (by omega) hb)
        rw [hr] at hr2
        injection hr2 with e1 e2
        subst e1
        exact Or.inr rfl
  unfold Oper.wp execOp
  simp only [hop, resolve, invoke, builtin, Sem.run_bind, Sem.run_pure, Result.andThen_ok, List.map_toArray, List.map_cons, List.map_nil, hs, hx, hr]
  exact hK _ _ (h v' w' h2 h3 hfar)
/-- A polynomial stored into a list's place. -/
theorem wp_store_pl {K : Act → World → Prop} (t : TypeId) (x y : Operand) (hop : o.op = .store t x y) (g k : Nat) (hx : a.eval x = .pointer (some ⟨g, k * 64, none⟩)) (xs : List Int) (hy : a.eval y = .agg (u8s 64 (cf xs)))
    (B n cap : Nat) (M : Nat → List Int) (hP : PlS w B (.slice (some ⟨g, 0, none⟩) n cap) n M) (hk : k < n) (hs : (P.info? t).map (·.size) = some 64)
    (h : ∀ w', PlS w' B (.slice (some ⟨g, 0, none⟩) n cap) n (fun q => if q = k then xs else M q) → w.grownBy w' (some g) → K (a.put o.dst undef) w') : o.wp P a w K Q := by
  rcases hP.2 with ⟨h', _⟩ | ⟨g', cap', cur, h', hb, hg, hnc, hcm, hcs, htake⟩
  · simp at h'
  · simp only [Value.slice.injEq, Option.some.injEq, Addr.mk.injEq, and_true, true_and] at h'
    obtain ⟨rfl, rfl⟩ := h'
    have hvl : (u8s 64 (cf xs)).toList.length = 64 := by rw [Array.length_toList, u8s_size]
    have hkn : k * 64 + 64 ≤ n * 64 := by omega
    have hnc2 : n * 64 ≤ cap * 64 := Nat.mul_le_mul_right _ hnc
    have hr := run_storeCells_at (P := P) g (k * 64) _ (u8s 64 (cf xs)).toList 0 cur w hg (by rw [hvl, hcs]; omega) (poly_one xs)
    simp only [Nat.add_zero, hvl] at hr
    have hcl : cur.toList.length = cap * 64 := by rw [Array.length_toList]; exact hcs
    obtain ⟨i, hi, hsz⟩ := Option.map_eq_some_iff.1 hs
    have hh := h (w.setRow g (cur.toList.take (k * 64) ++ (u8s 64 (cf xs)).toList ++ cur.toList.drop (k * 64 + 64)).toArray) ⟨by simp, .inr ⟨g, cap, _, rfl, hb, setRow_heap w g cur _ _ _ hg, hnc, hcm, by
        simp only [List.size_toArray, List.length_append, List.length_take, List.length_drop, hcl, hvl]; omega, by
        apply List.ext_getElem?
        intro j
        by_cases hj : j < n * 64
        · rw [List.getElem?_take, if_pos hj, List.getElem?_map, List.getElem?_range hj]
          have h5 : cur.toList[j]? = some (pcell M j) := by
            have : (cur.toList.take (n * 64))[j]? = some (pcell M j) := by rw [htake, List.getElem?_map, List.getElem?_range hj]; rfl
            rwa [List.getElem?_take, if_pos hj] at this
          show _ = some (Value.int .u8 (cf (if j / 64 = k then xs else M (j / 64)) (j % 64)))
          by_cases h1 : j < k * 64
          · rw [List.append_assoc, List.getElem?_append_left (by rw [List.length_take]; omega), List.getElem?_take, if_pos h1, h5, if_neg (by omega)]; rfl
          · by_cases h2 : j < k * 64 + 64
            · rw [List.append_assoc, List.getElem?_append_right (by rw [List.length_take]; omega), List.length_take, hcl, Nat.min_eq_left (by omega), List.getElem?_append_left (by omega), Array.getElem?_toList, u8s_get _ (by omega), if_pos (by omega)]
              rw [show j % 64 = j - k * 64 by omega]
            · rw [List.getElem?_append_right (by rw [List.length_append, List.length_take]; omega), List.length_append, List.length_take, hcl, Nat.min_eq_left (by omega), hvl, List.getElem?_drop, show k * 64 + 64 + (j - (k * 64 + 64)) = j by omega, h5, if_neg (by omega)]; rfl
        · rw [List.getElem?_eq_none (by rw [List.length_take]; omega), List.getElem?_eq_none (by simp; omega)]⟩⟩
      ⟨rfl, rfl, rfl, by simp, fun k' _ hk' => setRow_other w g k' _ (fun e => hk' (by simp [e]))⟩
    unfold Oper.wp execOp
    simp only [hop, hx, hy, Instr.storeAt, Instr.sureAddr, storeVar, sizeOf, typeInfo, Value.cells]
    simp [Sem.run_bind, hi, hsz, u8s_size, hr, Oper.upon]
    simpa only [List.append_assoc] using hh
end
theorem PlS.grown {w w' : World} {B : Nat} {v : Value} {n : Nat} {M : Nat → List Int} {row : Option Nat} (h : PlS w B v n M) (hg : w.grownBy w' row) (hne : v.ownBlock ≠ row ∨ row = none) : PlS w' B v n M := by
  refine ⟨h.1, ?_⟩
  rcases h.2 with h1 | ⟨g', cap', cur, h1, h2, h3, h4⟩
  · exact .inl h1
  · refine .inr ⟨g', cap', cur, h1, h2, ?_, h4⟩
    rw [hg.block g' (Array.getElem?_eq_some_iff.1 h3).1 (fun e => by
      rcases hne with h | h
      · exact h (by rw [h1, ← e]; rfl)
      · rw [h] at e; cases e)]
    exact h3
theorem PlS.slice {w : World} {B : Nat} {v : Value} {n : Nat} {M : Nat → List Int} (h : PlS w B v n M) : ∃ oa cap, v = .slice oa n cap := by
  rcases h.2 with ⟨rfl, rfl⟩ | ⟨g', cap', cur, h1, _⟩
  · exact ⟨none, 0, rfl⟩
  · exact ⟨_, _, h1⟩
theorem grown_belowP {B : Nat} {w w' : World} {row : Option Nat} (hg : w.grownBy w' row) (hr : ∀ k, row = some k → B ≤ k) (hs : B ≤ w.heap.size) : Below B w w' := (Below.refl B w).grown hg hs hr
theorem nz_dec2 {p : Int} {xs : List Int} (hx : P64 p xs) (h : xs ≠ []) {inst : Decidable (∀ i, i < 64 → cf xs i = cf [] i)} : @decide (∀ i, i < 64 → cf xs i = cf [] i) inst = false := decide_eq_false fun e => by
  have h0 := List.length_pos_iff.2 h
  have h2 := e (xs.length - 1) (by have := hx.le; omega)
  have h3 := hx.po.lead h
  rw [h2, cf_nil] at h3
  omega
set_option maxRecDepth 20000 in
set_option maxHeartbeats 1000000 in
theorem l04Trim_any (v : Value) (n B : Nat) (p : Int) (M : Nat → List Int) (w : World) (hv : PlS w B v n M) (hn : n ≤ 1000) (hM : 0 < n → P64 p (M (n - 1)) ∧ M (n - 1) ≠ []) :
    Calls Try.prog 43 #[v] w fun e w' => e = .returned v ∧ w = w' := by
  obtain ⟨oa, cap, rfl⟩ := hv.slice
  by_cases h0 : n = 0
  · subst h0
    clear hM hv
    go_enter Try.func43, Try.ntmps43
    go_wp2_with fail
    go_loopw [0] (fun u wq => u = .slice oa 0 cap ∧ wq = w) (fun _ _ => 0)
    case atStart => exact ⟨rfl, rfl⟩
    case round =>
      obtain ⟨rfl, rfl⟩ := hrel
      go_wp2_with fail
      go_ret
      exact ⟨rfl, rfl⟩
  · have hnp : 0 < n := Nat.pos_of_ne_zero h0
    have eix : ((n : Int) - 1) = ((n - 1 : Nat) : Int) := by omega
    obtain ⟨g, c2, e, _⟩ := hv.form hnp
    rw [e] at hv ⊢
    clear e
    have hcl := Lib.hid (hv.cells (n - 1) (by omega))
    have hMH := Lib.hid (hM hnp)
    clear hM hv
    go_enter Try.func43, Try.ntmps43
    go_wp2_with fail
    go_loopw [0] (fun u wq => u = .slice (some ⟨g, 0, none⟩) n c2 ∧ wq = w) (fun _ _ => 0)
    case atStart => exact ⟨rfl, rfl⟩
    case round =>
      obtain ⟨rfl, rfl⟩ := hrel
      go_wp2_with ((with_reducible refine wpl_guard ?_); first | (refine wpl_load_mid rfl 23 _ rfl g ((n - 1) * 64) rfl 64 _ _ hcl.out uPoly sPoly ?_) | (refine wpl_build_zero rfl 23 64 5 rfl _ uPoly sByte zPoly ?_) | (refine wpl_eql_arr rfl 23 _ _ _ rfl 64 .u8 (cf (M (n - 1))) (cf []) 5 rfl rfl uPoly uByte sByte gPoly _ (nz_dec2 hMH.out.1 hMH.out.2) ?_))
      go_ret
      exact ⟨rfl, rfl⟩
/-- All binomials fit, in numbers. -/
theorem ac_fit_iff {p : Int} {P : Nat} {xs : List Int} (hp : Pr p) (hP : p = P) (hx : Po p xs) : AcFit p P xs ↔ ∀ i, i < xs.length → (xs.length - 1 - i) * P ^ i ≤ 63 := by
  constructor
  · intro h i hi
    have h1 := h i hi
    rw [acH_exact hp hP hx i hi] at h1
    omega
  · intro h i hi
    rw [acH_exact hp hP hx i hi]
    have := h i hi
    omega
theorem ac_P64 {p : Int} {P : Nat} {xs : List Int} (hx : P64 p xs) (hP2 : 2 ≤ P) (ix k : Nat) (hk : k + 1 ≤ xs.length) (hf : ∀ i, i ≤ k → (k - i) * P ^ i ≤ 63) : P64 p (acS p P xs ix k) := by
  refine ⟨hx.pr, acS_Po hx.pr.pos.1 P xs ix k, ?_⟩
  have h1 := acS_len hx.pr hP2 hx.po ix k (by omega)
  by_cases h : ix ≤ k
  · have h2 := hf ix h
    have h3 : (k - 1 - ix) * P ^ ix ≤ (k - ix) * P ^ ix := Nat.mul_le_mul_right _ (by omega)
    omega
  · rw [h1.2 (by omega)]; simp
theorem ones_PlS {p : Int} {P : Nat} (w : World) (B : Nat) (hB : B ≤ w.heap.size) : PlS (w.alloc (.cells (u8s (1 * 64) (polysF [cf [1]])) 23)) B (.slice (some ⟨w.heap.size, 0, none⟩) 1 1) 1 (bin p P 0) := by
  have h := World.ownsRow_lit (base := B) (e := 23) (size := 64) w (u8s (1 * 64) (polysF [cf [1]])) 1 hB (by unfold maxLen; omega) (by rw [u8s_size])
  unfold PlS
  have e : (u8s (1 * 64) (polysF [cf [1]])).toList = (List.range (1 * 64)).map (pcell (bin p P 0)) := by
    unfold u8s
    rw [arr_list]
    apply List.map_congr_left
    intro j hj
    have := List.mem_range.1 hj
    unfold pcell polysF
    rw [show j / 64 = 0 by omega]; rfl
  rw [← e]; exact h
theorem block_lt_void {w : World} {B g : Nat} {M : Nat → List Int} (h : PlS w B (.slice (some ⟨g, 0, none⟩) 0 0) 0 M) : g < w.heap.size := by
  rcases h.2 with ⟨h', _⟩ | ⟨g', cap', cur, h', _, hg, _⟩
  · simp at h'
  · simp only [Value.slice.injEq, Option.some.injEq, Addr.mk.injEq, and_true, true_and] at h'
    obtain ⟨rfl, rfl⟩ := h'
    exact (Array.getElem?_eq_some_iff.1 hg).1
set_option maxRecDepth 20000 in
set_option maxHeartbeats 4000000 in
theorem l04Action_any (xs : List Int) (p : Int) (P : Nat) (w : World) (hx : P64 p xs) (hP : p = P) (hl : xs.length ≤ 7) (ok : Bool) (hok : AcFit p P xs ↔ ok = true) :
    Calls Try.prog 35 #[.int .i64 p, .agg (u8s 64 (cf xs))] w fun e w' => ∃ v, e = .returned (.tuple #[v, .bool ok]) ∧ PlS w' w.heap.size v (if ok then xs.length else 0) (acH p P xs) ∧ Below w.heap.size w w' := by
  have hp2 := hx.pr.pos
  obtain ⟨hP2, hP7⟩ := pow7 hx.pr hP
  have hxH := Lib.hid hx
  have hdg := Lib.hid (fun w => l01Deg_list p xs w hx)
  have hfitL := Lib.hid (ac_fit_iff hx.pr hP hx.po)
  have hone := Lib.hid (fun w => l01One_any w)
  have hacP := Lib.hid (fun ix k (hk : k + 1 ≤ xs.length) (hf : ∀ i, i ≤ k → (k - i) * P ^ i ≤ 63) => ac_P64 hx hP2 ix k hk hf)
  have hbnP := Lib.hid (fun ix k (hi : ix ≤ k) (hf : ∀ i, i ≤ k → (k - i) * P ^ i ≤ 63) => (⟨hx.pr, bin_Po hp2.1 P k ix, by have := ((bin_len hx.pr hP2 k ix).2 hi).1; have := hf ix hi; omega⟩ : P64 p (bin p P k ix)))
  have hacN := Lib.hid (fun k (hk : k ≤ xs.length) => (acS_len hx.pr hP2 hx.po k k hk).2 (Nat.le_refl k))
  have hnx := Lib.hid (fun v k B w (hk : k ≤ 5) (hf : ∀ i, i ≤ k → (k - i) * P ^ i ≤ 63) (hL : PlS w B v (k + 1) (bin p P k)) => l04Next_any v p P k B w hx.pr hP hk hf hL _ rfl)
  have hfin := Lib.hid (fun i => (acS_eq hp2.1 P xs i : acS p P xs i xs.length = acH p P xs i))
  have htr := Lib.hid (fun v B w (h0 : 0 < xs.length) (hv : PlS w B v xs.length (acH p P xs)) (hf : AcFit p P xs) => l04Trim_any v xs.length B p (acH p P xs) w hv (by omega) fun _ =>
    ⟨⟨hx.pr, acH_Po hp2.1 P xs _, hf _ (by omega)⟩, fun e => by have := acH_exact hx.pr hP hx.po (xs.length - 1) (by omega); rw [e] at this; simp at this⟩)
  have hok2 := Lib.hid hok
  have hkr := Lib.hid (fun k => hx.rng k)
  obtain ⟨L, hL⟩ : ∃ L, xs.length = L := ⟨_, rfl⟩
  rw [hL] at hdg hfitL hacP hacN hfin htr hl ⊢
  obtain ⟨hb0, hA0⟩ := boxes1 w (u8s 64 (cf xs)) 23
  have hbV := hb0.alloc (by simp) (.cells #[] 23)
  have hV0 := Lib.hid (show PlS ((w.alloc (.cells (u8s 64 (cf xs)) 23)).alloc (.cells #[] 23)) (w.heap.size + 1) (.slice (some ⟨w.heap.size + 1, 0, none⟩) 0 0) 0 (fun i => acS p P xs i 0) by have := PlS.void (w.alloc (.cells (u8s 64 (cf xs)) 23)) (fun i => acS p P xs i 0); simpa using this)
  have hA1 := hA0.alloc (.cells #[] 23)
  clear hx hP hok hL hb0 hA0 hP7
  go_enter Try.func35, Try.ntmps35
  go_wp2_with ((with_reducible refine wpl_guard ?_); first | (refine wpl_buildSlice_voidN rfl 29 23 64 rfl uPolys1 sPoly (by rw [zPoly]; rfl) ?_))
  refine (hone.out _).mono ?_
  rintro e w1 ⟨rfl, hn⟩
  have hb := below_step hbV hn
  have hA := hA1.keep hn
  have hV := Lib.hid (hV0.out.below hn)
  clear hbV hA1 hV0 hn
  have hsz1 := hA.lt
  have hn := below_new w1 (.cells (u8s (1 * 64) (polysF [cf [1]])) 23)
  have hN := Lib.hid (show PlS (w1.alloc (.cells (u8s (1 * 64) (polysF [cf [1]])) 23)) (w.heap.size + 1) (.slice (some ⟨w1.heap.size, 0, none⟩) 1 1) 1 (bin p P 0) from ones_PlS w1 (w.heap.size + 1) (by omega))
  have hVe : w.heap.size + 1 ≠ w1.heap.size := by have := block_lt_void hV.out; omega
  replace hb := below_step hb hn
  replace hA := hA.keep hn
  replace hV := Lib.hid (hV.out.below hn)
  clear hn hone
  go_wp2_with ((with_reducible refine wpl_guard ?_); first | (refine wpl_buildSlice_polys rfl 29 23 1 _ rfl Try.underlying29 sPoly zPoly [cf [1]] rfl (by decide) (by decide) rfl ?_))
  go_loopw [6, 7, 8] (fun vo vn kv wr => ∃ k : Nat, (k < L ∨ (L = 0 ∧ k = 0)) ∧ kv = .int .i64 (k : Int) ∧ Hid (PlS wr (w.heap.size + 1) vo k (fun i => acS p P xs i k)) ∧ Hid (PlS wr (w.heap.size + 1) vn (k + 1) (bin p P k)) ∧ vo.ownBlock ≠ vn.ownBlock ∧ Blk wr w.heap.size (u8s 64 (cf xs)) 23 ∧ Below w.heap.size w wr ∧ Hid (∀ i, i ≤ k → (k - i) * P ^ i ≤ 63)) (fun _ _ kv _ => L - (intOf kv).toNat)
  case atStart => exact ⟨0, by omega, rfl, hV, hN, fun e => hVe (by injection e), hA, hb, Lib.hid fun i hi => by rw [show 0 - i = 0 by omega, Nat.zero_mul]; omega⟩
  case round =>
    clear hA hb hV hN hVe hsz1
    obtain ⟨k, hkL, rfl, hO, hN, hgg, hA, hb, hfk⟩ := hrel
    go_wp2_with ((with_reducible refine wpl_guard ?_); first | (refine wpl_load_arr rfl 23 _ rfl _ rfl _ _ hA _ _ uPoly sPoly ?_))
    refine (hdg.out _).mono ?_
    rintro e y1 ⟨rfl, hn⟩
    replace hO := Lib.hid (hO.out.below hn)
    replace hN := Lib.hid (hN.out.below hn)
    replace hA := hA.keep hn
    replace hb := below_step hb hn
    clear hn
    by_cases hk : k < L
    · clear hkL
      have hk6 : k ≤ 6 := by omega
      have hkd : (k : Int) ≤ (L : Int) - 1 := by omega
      have adH := Lib.hid (fun ix (hi : ix ≤ k) w => l01Add_list (acS p P xs ix k) (bin p P k ix) p (cf xs k) w (hacP.out ix k (by omega) hfk.out) (hbnP.out ix k hi hfk.out) (by have := hkr.out k; omega) (by have := hkr.out k; omega))
      have hk0 : 0 ≤ cf xs k := (hkr.out k).1
      have hk255 : cf xs k ≤ 255 := by have := hkr.out k; omega
      obtain ⟨gN, cN, rfl, hgN⟩ := hN.out.form (by omega)
      go_wp2_with fail
      go_loopw [6, 9] (fun u iv wq => ∃ ix : Nat, ix ≤ k + 1 ∧ iv = .int .i64 (ix : Int) ∧ Hid (PlS wq (w.heap.size + 1) u (if ix ≤ k then k else k + 1) (fun q => if q < ix then acS p P xs q (k + 1) else acS p P xs q k)) ∧ Hid (PlS wq (w.heap.size + 1) (.slice (some ⟨gN, 0, none⟩) (k + 1) cN) (k + 1) (bin p P k)) ∧ u.ownBlock ≠ some gN ∧ Blk wq w.heap.size (u8s 64 (cf xs)) 23 ∧ Below w.heap.size w wq) (fun _ iv _ => k + 1 - (intOf iv).toNat)
      case atStart => exact ⟨0, by omega, rfl, by rw [if_pos (by omega)]; exact Lib.hid (hO.out.ext fun q hq => by rw [if_neg (by omega)]), hN, hgg, hA, hb⟩
      case round =>
        clear hO hN hgg hA hb
        obtain ⟨ix, hix, rfl, hO, hN, hgg, hA, hb⟩ := hrel
        by_cases hlt : ix < k + 1
        · by_cases hik : ix < k
          · rw [if_pos (by omega)] at hO
            obtain ⟨gO, cO, rfl, hgO⟩ := hO.out.form (by omega)
            have hne : ((ix : Int) == (k : Int)) = false := by rw [beq_eq_false_iff_ne]; omega
            replace hgg : gO ≠ gN := fun e => hgg (by rw [e]; rfl)
            go_upto_region 10 with (fail)
            go_upto_region 10 with (fail)
            refine gen_last (w := _) (by kernel_rfl) (by kernel_rfl) (by kernel_rfl) 17 (by kernel_rfl)
                (fun i => ([fun zv _ => zv = .slice (some ⟨gO, 0, none⟩) (k) cO, fun zv _ => zv = .int .i64 ((ix : Nat) : Int), fun zv _ => zv = .int .i64 p, fun zv _ => zv = .slice (some ⟨gO, 0, none⟩) (k) cO, fun zv _ => zv = .int .i64 ((ix : Nat) : Int), fun zv _ => zv = .pointer (some ⟨gO, ix * 64, none⟩), fun zv _ => zv = .agg (u8s 64 (cf (acS p P xs ix k))), fun zv _ => zv = .slice (some ⟨gN, 0, none⟩) (k + 1) cN, fun zv _ => zv = .int .i64 ((ix : Nat) : Int), fun zv _ => zv = .pointer (some ⟨gN, ix * 64, none⟩), fun zv _ => zv = .agg (u8s 64 (cf (bin p P k ix))), fun zv _ => zv = .int .i64 ((k : Nat) : Int), fun zv _ => zv = .pointer (some ⟨w.heap.size, k, none⟩), fun zv _ => zv = .int .u8 (cf xs k), fun zv _ => zv = .int .i64 (cf xs k), fun zv _ => zv = .agg (u8s 64 (cf (acS p P xs ix (k + 1)))), fun zv _ => zv = .pointer (some ⟨gO, ix * 64, none⟩), fun _ _ => True] : List (Value → World → Prop)).getD i (fun _ _ => True))
                (fun w' => True) trivial (fun w1 w2 h hb => trivial) ?_ ?_ ?_
            · intro i v w1 w2 h hb
              rcases i with _|_|_|_|_|_|_|_|_|_|_|_|_|_|_|_|_|_|i
              · exact h
              · exact h
              · exact h
              · exact h
              · exact h
              · exact h
              · exact h
              · exact h
              · exact h
              · exact h
              · exact h
              · exact h
              · exact h
              · exact h
              · exact h
              · exact h
              · exact h
              · exact h
              · exact h
            · intro i o ho hiZ a w2 hBl hSx hrd hpar
              rcases i with _|_|_|_|_|_|_|_|_|_|_|_|_|_|_|_|_|_|i
              · obtain rfl := Option.some.inj ho
                refine .inl ⟨rfl, ?_⟩
                have e6 : a.eval (.tmp 6) = .slice (some ⟨gO, 0, none⟩) (k) cO := hpar 6 _ (by kernel_rfl) (by kernel_rfl)
                exact wpv_of (wp_move _ _ rfl e6) (fun _ _ => rfl)
              · obtain rfl := Option.some.inj ho
                refine .inl ⟨rfl, ?_⟩
                have e9 : a.eval (.tmp 9) = .int .i64 ((ix : Nat) : Int) := hpar 9 _ (by kernel_rfl) (by kernel_rfl)
                exact wpv_of (wp_move _ _ rfl e9) (fun _ _ => rfl)
              · obtain rfl := Option.some.inj ho
                refine .inl ⟨rfl, ?_⟩
                have e0 : a.eval (.tmp 0) = .int .i64 p := hpar 0 _ (by kernel_rfl) (by kernel_rfl)
                exact wpv_of (wp_move _ _ rfl e0) (fun _ _ => rfl)
              · obtain rfl := Option.some.inj ho
                refine .inl ⟨rfl, ?_⟩
                have e6 : a.eval (.tmp 6) = .slice (some ⟨gO, 0, none⟩) (k) cO := hpar 6 _ (by kernel_rfl) (by kernel_rfl)
                exact wpv_of (wp_move _ _ rfl e6) (fun _ _ => rfl)
              · obtain rfl := Option.some.inj ho
                refine .inl ⟨rfl, ?_⟩
                have e9 : a.eval (.tmp 9) = .int .i64 ((ix : Nat) : Int) := hpar 9 _ (by kernel_rfl) (by kernel_rfl)
                exact wpv_of (wp_move _ _ rfl e9) (fun _ _ => rfl)
              · obtain rfl := Option.some.inj ho
                refine .inl ⟨rfl, ?_⟩
                have e38 : a.eval (.tmp 38) = .slice (some ⟨gO, 0, none⟩) (k) cO := hrd 3 _ 38 rfl rfl (by kernel_rfl) (by kernel_rfl)
                have e39 : a.eval (.tmp 39) = .int .i64 ((ix : Nat) : Int) := hrd 4 _ 39 rfl rfl (by kernel_rfl) (by kernel_rfl)
                exact wpv_of (wp_index_pl 29 23 64 _ _ rfl uPolys1 sPoly (by decide) gO (k) cO ix .i64 e38 e39 (by omega)) (fun _ _ => rfl)
              · obtain rfl := Option.some.inj ho
                refine .inl ⟨rfl, ?_⟩
                have e40 : a.eval (.tmp 40) = .pointer (some ⟨gO, ix * 64, none⟩) := hrd 5 _ 40 rfl rfl (by kernel_rfl) (by kernel_rfl)
                exact wpv_of (wp_load_pl 23 _ rfl gO ix e40 _ (by have := (hO.out.below hBl).cells ix (by omega); rwa [if_neg (Nat.lt_irrefl ix)] at this) _ uPoly sPoly) (fun _ _ => rfl)
              · obtain rfl := Option.some.inj ho
                refine .inl ⟨rfl, ?_⟩
                have e7 : a.eval (.tmp 7) = .slice (some ⟨gN, 0, none⟩) (k + 1) cN := hpar 7 _ (by kernel_rfl) (by kernel_rfl)
                exact wpv_of (wp_move _ _ rfl e7) (fun _ _ => rfl)
              · obtain rfl := Option.some.inj ho
                refine .inl ⟨rfl, ?_⟩
                have e9 : a.eval (.tmp 9) = .int .i64 ((ix : Nat) : Int) := hpar 9 _ (by kernel_rfl) (by kernel_rfl)
                exact wpv_of (wp_move _ _ rfl e9) (fun _ _ => rfl)
              · obtain rfl := Option.some.inj ho
                refine .inl ⟨rfl, ?_⟩
                have e42 : a.eval (.tmp 42) = .slice (some ⟨gN, 0, none⟩) (k + 1) cN := hrd 7 _ 42 rfl rfl (by kernel_rfl) (by kernel_rfl)
                have e43 : a.eval (.tmp 43) = .int .i64 ((ix : Nat) : Int) := hrd 8 _ 43 rfl rfl (by kernel_rfl) (by kernel_rfl)
                exact wpv_of (wp_index_pl 29 23 64 _ _ rfl uPolys1 sPoly (by decide) gN (k + 1) cN ix .i64 e42 e43 (by omega)) (fun _ _ => rfl)
              · obtain rfl := Option.some.inj ho
                refine .inl ⟨rfl, ?_⟩
                have e44 : a.eval (.tmp 44) = .pointer (some ⟨gN, ix * 64, none⟩) := hrd 9 _ 44 rfl rfl (by kernel_rfl) (by kernel_rfl)
                exact wpv_of (wp_load_pl 23 _ rfl gN ix e44 _ ((hN.out.below hBl).cells ix (by omega)) _ uPoly sPoly) (fun _ _ => rfl)
              · obtain rfl := Option.some.inj ho
                refine .inl ⟨rfl, ?_⟩
                have e8 : a.eval (.tmp 8) = .int .i64 ((k : Nat) : Int) := hpar 8 _ (by kernel_rfl) (by kernel_rfl)
                exact wpv_of (wp_move _ _ rfl e8) (fun _ _ => rfl)
              · obtain rfl := Option.some.inj ho
                refine .inl ⟨rfl, ?_⟩
                have e46 : a.eval (.tmp 46) = .int .i64 ((k : Nat) : Int) := hrd 11 _ 46 rfl rfl (by kernel_rfl) (by kernel_rfl)
                exact wpv_of (wp_index_arr 23 5 64 _ _ rfl uPoly sByte w.heap.size k .i64 (hpar 3 (.pointer (some ⟨w.heap.size, 0, none⟩)) (by kernel_rfl) (by kernel_rfl)) e46 (by omega)) (fun _ _ => rfl)
              · obtain rfl := Option.some.inj ho
                refine .inl ⟨rfl, ?_⟩
                have e47 : a.eval (.tmp 47) = .pointer (some ⟨w.heap.size, k, none⟩) := hrd 12 _ 47 rfl rfl (by kernel_rfl) (by kernel_rfl)
                exact wpv_of (wp_load_cell 5 _ rfl _ e47 .u8 uByte _ (by rw [(hA.keep hBl).cell, u8s_get _ (by omega)])) (fun _ _ => rfl)
              · obtain rfl := Option.some.inj ho
                refine .inl ⟨rfl, ?_⟩
                have e48 : a.eval (.tmp 48) = .int .u8 (cf xs k) := hrd 13 _ 48 rfl rfl (by kernel_rfl) (by kernel_rfl)
                exact wpv_of (wp_conv_u8 5 2 _ rfl _ e48 hk0 hk255 uByte uInt) (fun _ _ => rfl)
              · obtain rfl := Option.some.inj ho
                refine .inl ⟨rfl, ?_⟩
                have e37 : a.eval (.tmp 37) = .int .i64 p := hrd 2 _ 37 rfl rfl (by kernel_rfl) (by kernel_rfl)
                have e41 : a.eval (.tmp 41) = .agg (u8s 64 (cf (acS p P xs ix k))) := hrd 6 _ 41 rfl rfl (by kernel_rfl) (by kernel_rfl)
                have e45 : a.eval (.tmp 45) = .agg (u8s 64 (cf (bin p P k ix))) := hrd 10 _ 45 rfl rfl (by kernel_rfl) (by kernel_rfl)
                have e49 : a.eval (.tmp 49) = .int .i64 (cf xs k) := hrd 14 _ 49 rfl rfl (by kernel_rfl) (by kernel_rfl)
                exact wpv_call 42 [.tmp 37, .tmp 41, .tmp 45, .tmp 49] _ rfl [.int .i64 p, .agg (u8s 64 (cf (acS p P xs ix k))), .agg (u8s 64 (cf (bin p P k ix))), .int .i64 (cf xs k)] (by simp only [List.map_cons, List.map_nil, e37, e41, e45, e49]) Try.call42 ((adH.out ix (by omega) w2).mono fun _ _ h => ⟨_, h.1, rfl, h.2⟩)
              · obtain rfl := Option.some.inj ho
                refine .inl ⟨rfl, ?_⟩
                have e35 : a.eval (.tmp 35) = .slice (some ⟨gO, 0, none⟩) (k) cO := hrd 0 _ 35 rfl rfl (by kernel_rfl) (by kernel_rfl)
                have e36 : a.eval (.tmp 36) = .int .i64 ((ix : Nat) : Int) := hrd 1 _ 36 rfl rfl (by kernel_rfl) (by kernel_rfl)
                exact wpv_of (wp_index_pl 29 23 64 _ _ rfl uPolys1 sPoly (by decide) gO (k) cO ix .i64 e35 e36 (by omega)) (fun _ _ => rfl)
              · obtain rfl := Option.some.inj ho
                exact absurd rfl hiZ
              · simp at ho
            intro oZ hoZ vals xE hBx hSx hc0
            obtain rfl := Option.some.inj hoZ
            clear hoZ
            have e0 : vals 0 = .slice (some ⟨gO, 0, none⟩) (k) cO := hc0 0 (by simp) (by decide)
            have e1 : vals 1 = .int .i64 ((ix : Nat) : Int) := hc0 1 (by simp) (by decide)
            have e2 : vals 2 = .int .i64 p := hc0 2 (by simp) (by decide)
            have e3 : vals 3 = .slice (some ⟨gO, 0, none⟩) (k) cO := hc0 3 (by simp) (by decide)
            have e4 : vals 4 = .int .i64 ((ix : Nat) : Int) := hc0 4 (by simp) (by decide)
            have e5 : vals 5 = .pointer (some ⟨gO, ix * 64, none⟩) := hc0 5 (by simp) (by decide)
            have e6 : vals 6 = .agg (u8s 64 (cf (acS p P xs ix k))) := hc0 6 (by simp) (by decide)
            have e7 : vals 7 = .slice (some ⟨gN, 0, none⟩) (k + 1) cN := hc0 7 (by simp) (by decide)
            have e8 : vals 8 = .int .i64 ((ix : Nat) : Int) := hc0 8 (by simp) (by decide)
            have e9 : vals 9 = .pointer (some ⟨gN, ix * 64, none⟩) := hc0 9 (by simp) (by decide)
            have e10 : vals 10 = .agg (u8s 64 (cf (bin p P k ix))) := hc0 10 (by simp) (by decide)
            have e11 : vals 11 = .int .i64 ((k : Nat) : Int) := hc0 11 (by simp) (by decide)
            have e12 : vals 12 = .pointer (some ⟨w.heap.size, k, none⟩) := hc0 12 (by simp) (by decide)
            have e13 : vals 13 = .int .u8 (cf xs k) := hc0 13 (by simp) (by decide)
            have e14 : vals 14 = .int .i64 (cf xs k) := hc0 14 (by simp) (by decide)
            have e15 : vals 15 = .agg (u8s 64 (cf (acS p P xs ix (k + 1)))) := hc0 15 (by simp) (by decide)
            have e16 : vals 16 = .pointer (some ⟨gO, ix * 64, none⟩) := hc0 16 (by simp) (by decide)
            refine ⟨rfl, ?_⟩
            simp only [List.length_cons, List.length_nil, Nat.zero_add, Nat.reduceAdd, List.replicate, seenAll, Bool.false_eq_true, if_false, putAll, if_true, Act.put, List.setIfInBounds_toArray, List.set_cons_zero, List.set_cons_succ, e0, e1, e2, e3, e4, e5, e6, e7, e8, e9, e10, e11, e12, e13, e14, e15, e16]
            replace hA := hA.keep hBx
            replace hb := below_step hb hBx
            clear hc0 hSx e0 e1 e2 e3 e4 e5 e6 e7 e8 e9 e10 e11 e12 e13 e14 e15 e16
            replace hO := Lib.hid (hO.out.below hBx)
            replace hN := Lib.hid (hN.out.below hBx)
            clear hBx
            have hOc := hO.out
            refine wp_store_pl 23 _ _ rfl gO ix rfl (acS p P xs ix (k + 1)) rfl (w.heap.size + 1) (k) cO _ hOc (by omega) sPoly ?_
            intro w7 hO7 hg7
            try simp only [Act.put, List.setIfInBounds_toArray, List.set_cons_zero, List.set_cons_succ]
            have hO8 := Lib.hid (hO7.ext (M' := fun q => if q < ix + 1 then acS p P xs q (k + 1) else acS p P xs q k) fun q hq => by
              by_cases e : q = ix
              · subst e; rw [if_pos rfl, if_pos (by omega)]
              · rw [if_neg e]
                by_cases e2 : q < ix
                · rw [if_pos e2, if_pos (by omega)]
                · rw [if_neg e2, if_neg (by omega)])
            have hN8 := Lib.hid (hN.out.grown hg7 (Or.inl fun e => hgg (by injection e with e; exact e.symm)))
            have hA8 := hA.grown hg7 (by intro e; injection e with e; omega)
            have hb8 := hb.trans (grown_belowP hg7 (fun q e => by injection e with e; omega) hb.size)
            clear hO7 hg7 hOc hO hN hA hb
            go_wp2_with fail
            go_roundw
            case rel => exact ⟨ix + 1, by omega, by go_num, by rw [if_pos (by omega)]; exact hO8, hN8, fun e => hgg (by injection e with e), hA8, hb8⟩
            case measure => simp [intOf] <;> omega
          · have hik1 : ix ≤ k := by omega
            have hik2 : k ≤ ix := by omega
            clear hlt hik hix
            rw [if_pos (by omega)] at hO
            obtain ⟨oa, cap, rfl⟩ := hO.out.slice
            have heq : ((ix : Int) == (k : Int)) = true := by rw [beq_iff_eq]; omega
            have hge := owned_ge hO.out
            have hlN : gN < _ := block_lt_of_cell (hN.out.cells 0 (by omega) 0 (by omega))
            rename World => y3
            have hn := below_new y3 (.cells (u8s (1 * 64) (polysF [fun _ => 0])) 23)
            have hO2 := Lib.hid (hO.out.below hn)
            have hN2 := Lib.hid (hN.out.below hn)
            have hA2 := hA.keep hn
            have hb2 := below_step hb hn
            have hnewH := Lib.hid (show ∀ j u, ((u8s 64 (fun _ => 0)).toList)[j]? = some u → (y3.alloc (.cells (u8s (1 * 64) (polysF [fun _ => 0])) 23)).cell? ((⟨y3.heap.size, 0, none⟩ : Addr).add j) = some u from fun j u hj => by
              rw [addr_add]; have := poly_new y3 [] j u; rw [cf_void] at this; exact this hj)
            have h1c := Lib.hid (fun u (hu : u ∈ (u8s 64 (fun _ => 0)).toList) => by have := poly_one [] u; rw [cf_void] at this; exact this hu)
            clear hn hO hN hA hb
            go_upto_region 10 with ((with_reducible refine wpl_guard ?_); first | (refine wpl_build_zero rfl 23 64 5 rfl _ uPoly sByte zPoly ?_) | (refine wpl_buildSlice_polys rfl 29 23 1 _ rfl Try.underlying29 sPoly zPoly [fun _ => 0] rfl (by decide) (by decide) rfl ?_) | (at_builtin; refine wpl_append_far rfl _ _ 29 rfl (w.heap.size + 1) 23 _ 64 64 Try.underlying29 iPoly (by simp [Value.cells, u8s_size]) (by decide) (by decide) _ k _ rfl hO2.out ⟨y3.heap.size, 0, none⟩ rfl (u8s 64 (fun _ => 0)).toList (by rw [Array.length_toList, u8s_size]) hnewH.out h1c.out (by omega) (by simp only [size_alloc]; have := hb2.size; simp only [size_alloc] at this; have := hA2.lt; simp only [size_alloc] at this; omega) ?_; intro v4 w4 hown4 hg4 hfar4))
            have hO := Lib.hid (show PlS w4 (w.heap.size + 1) v4 (k + 1) (fun q => if q < ix then acS p P xs q (k + 1) else acS p P xs q k) by
              unfold PlS; rw [pcells_succ, if_neg (by omega), hacN.out k (by omega), cf_void]; exact hown4)
            have hN := Lib.hid (hN2.out.grown hg4 (Or.inl fun e => hgg e.symm))
            have hA := hA2.grown hg4 (fun e => by have := hge _ e.symm; omega)
            have hb := hb2.trans (grown_belowP hg4 (fun q e => by have := hge q e; omega) hb2.size)
            have hgg4 : v4.ownBlock ≠ some gN := fun e => by
              rcases hfar4 with h | h
              · exact hgg (h ▸ e)
              · rw [h] at e; injection e with e; simp only [size_alloc] at e; omega
            clear hown4 hg4 hfar4 hO2 hN2 hA2 hb2 hgg hge hnewH h1c
            obtain ⟨gO, cO, rfl, hgO⟩ := hO.out.form (by omega)
            have hgg : gO ≠ gN := fun e => hgg4 (by rw [e]; rfl)
            clear hgg4
            try simp only [Act.put, List.setIfInBounds_toArray, List.set_cons_zero, List.set_cons_succ]
            go_upto_region 10 with (fail)
            refine gen_last (w := _) (by kernel_rfl) (by kernel_rfl) (by kernel_rfl) 17 (by kernel_rfl)
                (fun i => ([fun zv _ => zv = .slice (some ⟨gO, 0, none⟩) (k + 1) cO, fun zv _ => zv = .int .i64 ((ix : Nat) : Int), fun zv _ => zv = .int .i64 p, fun zv _ => zv = .slice (some ⟨gO, 0, none⟩) (k + 1) cO, fun zv _ => zv = .int .i64 ((ix : Nat) : Int), fun zv _ => zv = .pointer (some ⟨gO, ix * 64, none⟩), fun zv _ => zv = .agg (u8s 64 (cf (acS p P xs ix k))), fun zv _ => zv = .slice (some ⟨gN, 0, none⟩) (k + 1) cN, fun zv _ => zv = .int .i64 ((ix : Nat) : Int), fun zv _ => zv = .pointer (some ⟨gN, ix * 64, none⟩), fun zv _ => zv = .agg (u8s 64 (cf (bin p P k ix))), fun zv _ => zv = .int .i64 ((k : Nat) : Int), fun zv _ => zv = .pointer (some ⟨w.heap.size, k, none⟩), fun zv _ => zv = .int .u8 (cf xs k), fun zv _ => zv = .int .i64 (cf xs k), fun zv _ => zv = .agg (u8s 64 (cf (acS p P xs ix (k + 1)))), fun zv _ => zv = .pointer (some ⟨gO, ix * 64, none⟩), fun _ _ => True] : List (Value → World → Prop)).getD i (fun _ _ => True))
                (fun w' => True) trivial (fun w1 w2 h hb => trivial) ?_ ?_ ?_
            · intro i v w1 w2 h hb
              rcases i with _|_|_|_|_|_|_|_|_|_|_|_|_|_|_|_|_|_|i
              · exact h
              · exact h
              · exact h
              · exact h
              · exact h
              · exact h
              · exact h
              · exact h
              · exact h
              · exact h
              · exact h
              · exact h
              · exact h
              · exact h
              · exact h
              · exact h
              · exact h
              · exact h
              · exact h
            · intro i o ho hiZ a w2 hBl hSx hrd hpar
              rcases i with _|_|_|_|_|_|_|_|_|_|_|_|_|_|_|_|_|_|i
              · obtain rfl := Option.some.inj ho
                refine .inl ⟨rfl, ?_⟩
                have e6 : a.eval (.tmp 6) = .slice (some ⟨gO, 0, none⟩) (k + 1) cO := hpar 6 _ (by kernel_rfl) (by kernel_rfl)
                exact wpv_of (wp_move _ _ rfl e6) (fun _ _ => rfl)
              · obtain rfl := Option.some.inj ho
                refine .inl ⟨rfl, ?_⟩
                have e9 : a.eval (.tmp 9) = .int .i64 ((ix : Nat) : Int) := hpar 9 _ (by kernel_rfl) (by kernel_rfl)
                exact wpv_of (wp_move _ _ rfl e9) (fun _ _ => rfl)
              · obtain rfl := Option.some.inj ho
                refine .inl ⟨rfl, ?_⟩
                have e0 : a.eval (.tmp 0) = .int .i64 p := hpar 0 _ (by kernel_rfl) (by kernel_rfl)
                exact wpv_of (wp_move _ _ rfl e0) (fun _ _ => rfl)
              · obtain rfl := Option.some.inj ho
                refine .inl ⟨rfl, ?_⟩
                have e6 : a.eval (.tmp 6) = .slice (some ⟨gO, 0, none⟩) (k + 1) cO := hpar 6 _ (by kernel_rfl) (by kernel_rfl)
                exact wpv_of (wp_move _ _ rfl e6) (fun _ _ => rfl)
              · obtain rfl := Option.some.inj ho
                refine .inl ⟨rfl, ?_⟩
                have e9 : a.eval (.tmp 9) = .int .i64 ((ix : Nat) : Int) := hpar 9 _ (by kernel_rfl) (by kernel_rfl)
                exact wpv_of (wp_move _ _ rfl e9) (fun _ _ => rfl)
              · obtain rfl := Option.some.inj ho
                refine .inl ⟨rfl, ?_⟩
                have e38 : a.eval (.tmp 38) = .slice (some ⟨gO, 0, none⟩) (k + 1) cO := hrd 3 _ 38 rfl rfl (by kernel_rfl) (by kernel_rfl)
                have e39 : a.eval (.tmp 39) = .int .i64 ((ix : Nat) : Int) := hrd 4 _ 39 rfl rfl (by kernel_rfl) (by kernel_rfl)
                exact wpv_of (wp_index_pl 29 23 64 _ _ rfl uPolys1 sPoly (by decide) gO (k + 1) cO ix .i64 e38 e39 (by omega)) (fun _ _ => rfl)
              · obtain rfl := Option.some.inj ho
                refine .inl ⟨rfl, ?_⟩
                have e40 : a.eval (.tmp 40) = .pointer (some ⟨gO, ix * 64, none⟩) := hrd 5 _ 40 rfl rfl (by kernel_rfl) (by kernel_rfl)
                exact wpv_of (wp_load_pl 23 _ rfl gO ix e40 _ (by have := (hO.out.below hBl).cells ix (by omega); rwa [if_neg (Nat.lt_irrefl ix)] at this) _ uPoly sPoly) (fun _ _ => rfl)
              · obtain rfl := Option.some.inj ho
                refine .inl ⟨rfl, ?_⟩
                have e7 : a.eval (.tmp 7) = .slice (some ⟨gN, 0, none⟩) (k + 1) cN := hpar 7 _ (by kernel_rfl) (by kernel_rfl)
                exact wpv_of (wp_move _ _ rfl e7) (fun _ _ => rfl)
              · obtain rfl := Option.some.inj ho
                refine .inl ⟨rfl, ?_⟩
                have e9 : a.eval (.tmp 9) = .int .i64 ((ix : Nat) : Int) := hpar 9 _ (by kernel_rfl) (by kernel_rfl)
                exact wpv_of (wp_move _ _ rfl e9) (fun _ _ => rfl)
              · obtain rfl := Option.some.inj ho
                refine .inl ⟨rfl, ?_⟩
                have e42 : a.eval (.tmp 42) = .slice (some ⟨gN, 0, none⟩) (k + 1) cN := hrd 7 _ 42 rfl rfl (by kernel_rfl) (by kernel_rfl)
                have e43 : a.eval (.tmp 43) = .int .i64 ((ix : Nat) : Int) := hrd 8 _ 43 rfl rfl (by kernel_rfl) (by kernel_rfl)
                exact wpv_of (wp_index_pl 29 23 64 _ _ rfl uPolys1 sPoly (by decide) gN (k + 1) cN ix .i64 e42 e43 (by omega)) (fun _ _ => rfl)
              · obtain rfl := Option.some.inj ho
                refine .inl ⟨rfl, ?_⟩
                have e44 : a.eval (.tmp 44) = .pointer (some ⟨gN, ix * 64, none⟩) := hrd 9 _ 44 rfl rfl (by kernel_rfl) (by kernel_rfl)
                exact wpv_of (wp_load_pl 23 _ rfl gN ix e44 _ ((hN.out.below hBl).cells ix (by omega)) _ uPoly sPoly) (fun _ _ => rfl)
              · obtain rfl := Option.some.inj ho
                refine .inl ⟨rfl, ?_⟩
                have e8 : a.eval (.tmp 8) = .int .i64 ((k : Nat) : Int) := hpar 8 _ (by kernel_rfl) (by kernel_rfl)
                exact wpv_of (wp_move _ _ rfl e8) (fun _ _ => rfl)
              · obtain rfl := Option.some.inj ho
                refine .inl ⟨rfl, ?_⟩
                have e46 : a.eval (.tmp 46) = .int .i64 ((k : Nat) : Int) := hrd 11 _ 46 rfl rfl (by kernel_rfl) (by kernel_rfl)
                exact wpv_of (wp_index_arr 23 5 64 _ _ rfl uPoly sByte w.heap.size k .i64 (hpar 3 (.pointer (some ⟨w.heap.size, 0, none⟩)) (by kernel_rfl) (by kernel_rfl)) e46 (by omega)) (fun _ _ => rfl)
              · obtain rfl := Option.some.inj ho
                refine .inl ⟨rfl, ?_⟩
                have e47 : a.eval (.tmp 47) = .pointer (some ⟨w.heap.size, k, none⟩) := hrd 12 _ 47 rfl rfl (by kernel_rfl) (by kernel_rfl)
                exact wpv_of (wp_load_cell 5 _ rfl _ e47 .u8 uByte _ (by rw [(hA.keep hBl).cell, u8s_get _ (by omega)])) (fun _ _ => rfl)
              · obtain rfl := Option.some.inj ho
                refine .inl ⟨rfl, ?_⟩
                have e48 : a.eval (.tmp 48) = .int .u8 (cf xs k) := hrd 13 _ 48 rfl rfl (by kernel_rfl) (by kernel_rfl)
                exact wpv_of (wp_conv_u8 5 2 _ rfl _ e48 hk0 hk255 uByte uInt) (fun _ _ => rfl)
              · obtain rfl := Option.some.inj ho
                refine .inl ⟨rfl, ?_⟩
                have e37 : a.eval (.tmp 37) = .int .i64 p := hrd 2 _ 37 rfl rfl (by kernel_rfl) (by kernel_rfl)
                have e41 : a.eval (.tmp 41) = .agg (u8s 64 (cf (acS p P xs ix k))) := hrd 6 _ 41 rfl rfl (by kernel_rfl) (by kernel_rfl)
                have e45 : a.eval (.tmp 45) = .agg (u8s 64 (cf (bin p P k ix))) := hrd 10 _ 45 rfl rfl (by kernel_rfl) (by kernel_rfl)
                have e49 : a.eval (.tmp 49) = .int .i64 (cf xs k) := hrd 14 _ 49 rfl rfl (by kernel_rfl) (by kernel_rfl)
                exact wpv_call 42 [.tmp 37, .tmp 41, .tmp 45, .tmp 49] _ rfl [.int .i64 p, .agg (u8s 64 (cf (acS p P xs ix k))), .agg (u8s 64 (cf (bin p P k ix))), .int .i64 (cf xs k)] (by simp only [List.map_cons, List.map_nil, e37, e41, e45, e49]) Try.call42 ((adH.out ix (by omega) w2).mono fun _ _ h => ⟨_, h.1, rfl, h.2⟩)
              · obtain rfl := Option.some.inj ho
                refine .inl ⟨rfl, ?_⟩
                have e35 : a.eval (.tmp 35) = .slice (some ⟨gO, 0, none⟩) (k + 1) cO := hrd 0 _ 35 rfl rfl (by kernel_rfl) (by kernel_rfl)
                have e36 : a.eval (.tmp 36) = .int .i64 ((ix : Nat) : Int) := hrd 1 _ 36 rfl rfl (by kernel_rfl) (by kernel_rfl)
                exact wpv_of (wp_index_pl 29 23 64 _ _ rfl uPolys1 sPoly (by decide) gO (k + 1) cO ix .i64 e35 e36 (by omega)) (fun _ _ => rfl)
              · obtain rfl := Option.some.inj ho
                exact absurd rfl hiZ
              · simp at ho
            intro oZ hoZ vals xE hBx hSx hc0
            obtain rfl := Option.some.inj hoZ
            clear hoZ
            have e0 : vals 0 = .slice (some ⟨gO, 0, none⟩) (k + 1) cO := hc0 0 (by simp) (by decide)
            have e1 : vals 1 = .int .i64 ((ix : Nat) : Int) := hc0 1 (by simp) (by decide)
            have e2 : vals 2 = .int .i64 p := hc0 2 (by simp) (by decide)
            have e3 : vals 3 = .slice (some ⟨gO, 0, none⟩) (k + 1) cO := hc0 3 (by simp) (by decide)
            have e4 : vals 4 = .int .i64 ((ix : Nat) : Int) := hc0 4 (by simp) (by decide)
            have e5 : vals 5 = .pointer (some ⟨gO, ix * 64, none⟩) := hc0 5 (by simp) (by decide)
            have e6 : vals 6 = .agg (u8s 64 (cf (acS p P xs ix k))) := hc0 6 (by simp) (by decide)
            have e7 : vals 7 = .slice (some ⟨gN, 0, none⟩) (k + 1) cN := hc0 7 (by simp) (by decide)
            have e8 : vals 8 = .int .i64 ((ix : Nat) : Int) := hc0 8 (by simp) (by decide)
            have e9 : vals 9 = .pointer (some ⟨gN, ix * 64, none⟩) := hc0 9 (by simp) (by decide)
            have e10 : vals 10 = .agg (u8s 64 (cf (bin p P k ix))) := hc0 10 (by simp) (by decide)
            have e11 : vals 11 = .int .i64 ((k : Nat) : Int) := hc0 11 (by simp) (by decide)
            have e12 : vals 12 = .pointer (some ⟨w.heap.size, k, none⟩) := hc0 12 (by simp) (by decide)
            have e13 : vals 13 = .int .u8 (cf xs k) := hc0 13 (by simp) (by decide)
            have e14 : vals 14 = .int .i64 (cf xs k) := hc0 14 (by simp) (by decide)
            have e15 : vals 15 = .agg (u8s 64 (cf (acS p P xs ix (k + 1)))) := hc0 15 (by simp) (by decide)
            have e16 : vals 16 = .pointer (some ⟨gO, ix * 64, none⟩) := hc0 16 (by simp) (by decide)
            refine ⟨rfl, ?_⟩
            simp only [List.length_cons, List.length_nil, Nat.zero_add, Nat.reduceAdd, List.replicate, seenAll, Bool.false_eq_true, if_false, putAll, if_true, Act.put, List.setIfInBounds_toArray, List.set_cons_zero, List.set_cons_succ, e0, e1, e2, e3, e4, e5, e6, e7, e8, e9, e10, e11, e12, e13, e14, e15, e16]
            replace hA := hA.keep hBx
            replace hb := below_step hb hBx
            clear hc0 hSx e0 e1 e2 e3 e4 e5 e6 e7 e8 e9 e10 e11 e12 e13 e14 e15 e16
            replace hO := Lib.hid (hO.out.below hBx)
            replace hN := Lib.hid (hN.out.below hBx)
            clear hBx
            have hOc := hO.out
            refine wp_store_pl 23 _ _ rfl gO ix rfl (acS p P xs ix (k + 1)) rfl (w.heap.size + 1) (k + 1) cO _ hOc (by omega) sPoly ?_
            intro w7 hO7 hg7
            try simp only [Act.put, List.setIfInBounds_toArray, List.set_cons_zero, List.set_cons_succ]
            have hO8 := Lib.hid (hO7.ext (M' := fun q => if q < ix + 1 then acS p P xs q (k + 1) else acS p P xs q k) fun q hq => by
              by_cases e : q = ix
              · subst e; rw [if_pos rfl, if_pos (by omega)]
              · rw [if_neg e]
                by_cases e2 : q < ix
                · rw [if_pos e2, if_pos (by omega)]
                · rw [if_neg e2, if_neg (by omega)])
            have hN8 := Lib.hid (hN.out.grown hg7 (Or.inl fun e => hgg (by injection e with e; exact e.symm)))
            have hA8 := hA.grown hg7 (by intro e; injection e with e; omega)
            have hb8 := hb.trans (grown_belowP hg7 (fun q e => by injection e with e; omega) hb.size)
            clear hO7 hg7 hOc hO hN hA hb
            go_wp2_with fail
            go_roundw
            case rel => exact ⟨ix + 1, by omega, by go_num, by rw [if_neg (by omega)]; exact hO8, hN8, fun e => hgg (by injection e with e), hA8, hb8⟩
            case measure => simp [intOf] <;> omega
        · obtain rfl : ix = k + 1 := by omega
          rw [if_neg (by omega)] at hO
          obtain ⟨gO, cO, rfl, hgO⟩ := hO.out.form (by omega)
          have hggI : gO ≠ gN := fun e => hgg (by rw [e]; rfl)
          go_wp2_with ((with_reducible refine wpl_guard ?_); first | (refine wpl_load_arr rfl 23 _ rfl _ rfl _ _ hA _ _ uPoly sPoly ?_))
          refine (hdg.out _).mono ?_
          rintro e y2 ⟨rfl, hn⟩
          replace hO := Lib.hid (hO.out.below hn)
          replace hN := Lib.hid (hN.out.below hn)
          replace hA := hA.keep hn
          replace hb := below_step hb hn
          clear hn
          by_cases hlast : k + 1 = L
          · have hle : ((k : Int) == (L : Int) - 1) = true := by rw [beq_iff_eq]; omega
            have hF : AcFit p P xs := hfitL.out.2 fun i hi => by have := hfk.out i (by omega); rwa [show L - 1 - i = k - i by omega]
            have hoT : ok = true := hok2.out.1 hF
            subst hoT
            have hOk := hO.out.ext (M' := acH p P xs) fun q hq => by rw [if_pos hq, ← hfin.out q, ← hlast]
            have hOL := Eq.mp (congrArg (fun n => PlS y2 (w.heap.size + 1) (.slice (some ⟨gO, 0, none⟩) (k + 1) cO) n (acH p P xs)) hlast) hOk
            have htH := Lib.hid (htr.out (.slice (some ⟨gO, 0, none⟩) (k + 1) cO) (w.heap.size + 1) y2 (by omega) hOL hF)
            have hE := Lib.hid (show PlS y2 w.heap.size (.slice (some ⟨gO, 0, none⟩) (k + 1) cO) L (acH p P xs) from owns_mono' hOL (Nat.le_succ _))
            clear hOk hOL hF hlast
            go_wp2_with fail
            refine htH.out.mono ?_
            rintro e y4 ⟨rfl, rfl⟩
            go_wp2_with fail
            go_ret2
            refine ⟨_, rfl, ?_, hb⟩
            have h := hE.out
            unfold PlS at h ⊢
            simp only [if_true]
            exact h
          · have hle : ((k : Int) == (L : Int) - 1) = false := by rw [beq_eq_false_iff_ne]; omega
            have hnxk := hnx.out _ k (w.heap.size + 1) y2 (by omega) hfk.out hN.out
            obtain ⟨okn, hokn⟩ : ∃ okn, decide (∀ i, i ≤ k → (k + 1 - i) * P ^ i ≤ 63) = okn := ⟨_, rfl⟩
            rw [hokn] at hnxk
            have hnxH := Lib.hid hnxk
            have hoknH := Lib.hid hokn
            clear hnxk hokn
            go_wp2_with fail
            refine hnxH.out.mono ?_
            rintro e y4 ⟨v5, rfl, hv5, hn⟩
            have hv5H := Lib.hid hv5
            have hlO : gO < y2.heap.size := block_lt_of_cell (hO.out.cells 0 (by omega) 0 (by omega))
            have hsy := hb.size
            replace hO := Lib.hid (hO.out.below hn)
            replace hA := hA.keep hn
            replace hb := below_step hb hn
            clear hn hv5 hnxH hN
            cases okn
            · have hoF : ok = false := by
                cases hq : ok
                · rfl
                · refine absurd (fun i hi => ?_) (of_decide_eq_false hoknH.out)
                  have h1 := hfitL.out.1 (hok2.out.2 hq) i (by omega)
                  exact Nat.le_trans (Nat.mul_le_mul_right _ (by omega)) h1
              subst hoF
              go_wp2_with fail
              go_ret2
              exact ⟨_, rfl, World.ownsRow_nil _ _ _ _, hb⟩
            · have hfk2 := Lib.hid (fun i (hi : i ≤ k + 1) => (by
                by_cases e : i = k + 1
                · rw [e, Nat.sub_self, Nat.zero_mul]; omega
                · exact of_decide_eq_true hoknH.out i (by omega) : (k + 1 - i) * P ^ i ≤ 63))
              have hOn := Lib.hid (hO.out.ext (M' := fun i => acS p P xs i (k + 1)) fun q hq => if_pos hq)
              have hv6 := Lib.hid (owns_mono' hv5H.out (show w.heap.size + 1 ≤ y2.heap.size by omega))
              have hgg2 : (Value.slice (some ⟨gO, 0, none⟩) (k + 1) cO).ownBlock ≠ v5.ownBlock := fun e => by
                have := owned_ge hv5H.out gO (e ▸ rfl)
                omega
              clear hO hv5H
              go_wp2_with fail
              go_roundw
              case rel => exact ⟨k + 1, Or.inl (by omega), by go_num, hOn, hv6, hgg2, hA, hb, hfk2⟩
              case measure => simp [intOf] <;> omega
    · have hL0 : L = 0 ∧ k = 0 := by omega
      obtain ⟨hL0, rfl⟩ := hL0
      subst hL0
      have hF : AcFit p P xs := hfitL.out.2 fun i hi => absurd hi (by omega)
      have hoT : ok = true := hok2.out.1 hF
      subst hoT
      have htH := Lib.hid (l04Trim_any _ 0 (w.heap.size + 1) p _ y1 hO.out (by omega) fun h => absurd h (by omega))
      clear hF
      have hE := Lib.hid (show PlS y1 w.heap.size _ 0 (acH p P xs) from owns_mono' (hO.out.ext (M' := acH p P xs) fun q hq => absurd hq (by omega)) (by omega))
      obtain ⟨oa, cap, rfl⟩ := hO.out.slice
      go_wp2_with fail
      refine htH.out.mono ?_
      rintro e y4 ⟨rfl, rfl⟩
      go_wp2_with fail
      go_ret2
      exact ⟨_, rfl, hE.out, hb⟩
end Go.Proofs.Ytionaenmjndncab
