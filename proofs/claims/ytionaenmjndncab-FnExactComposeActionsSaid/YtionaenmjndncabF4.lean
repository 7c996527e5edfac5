/- Walks: the binomials of a polynomial, the reference's side. -/
import Derived.Test.YtionaenmjndncabF3
import Derived.Laws.OwnMore
set_option linter.unusedVariables false
set_option linter.unusedSimpArgs false
namespace Go.Proofs.Ytionaenmjndncab
open Go.RowKit
theorem uPolys1 : Try.prog.underlying 29 = some (.slice 23) := by kernel_rfl
theorem PlS.below {w w' : World} {B : Nat} {v : Value} {n : Nat} {M : Nat → List Int} (h : PlS w B v n M) (hb : Below w.heap.size w w') : PlS w' B v n M := owns_below' h hb
theorem PlS.form {w : World} {B : Nat} {v : Value} {n : Nat} {M : Nat → List Int} (h : PlS w B v n M) (hn : 0 < n) : ∃ g cap, v = .slice (some ⟨g, 0, none⟩) n cap ∧ B ≤ g := owns_form h hn
theorem PlS.cells {w : World} {B g n cap : Nat} {M : Nat → List Int} (h : PlS w B (.slice (some ⟨g, 0, none⟩) n cap) n M) (i : Nat) (hi : i < n) : ∀ j, j < 64 → w.cell? ⟨g, i * 64 + j, none⟩ = some (.int .u8 (cf (M i) j)) := fun j hj => by
  have h1 := World.ownsRow.cellAt h (i * 64 + j) (by omega)
  rw [h1, List.getElem?_map, List.getElem?_range (by omega)]
  show some (pcell M (i * 64 + j)) = _
  unfold pcell
  rw [show (i * 64 + j) / 64 = i by omega, show (i * 64 + j) % 64 = j by omega]
theorem PlS.belowAt {w w' : World} {B C g n cap : Nat} {M : Nat → List Int} (h : PlS w B (.slice (some ⟨g, 0, none⟩) n cap) n M) (hb : Below C w w') (hg : g < C) : PlS w' B (.slice (some ⟨g, 0, none⟩) n cap) n M := by
  refine ⟨h.1, ?_⟩
  rcases h.2 with h1 | ⟨g', cap', cur, h1, h2, h3, h4⟩
  · exact .inl h1
  · refine .inr ⟨g', cap', cur, h1, h2, ?_, h4⟩
    injection h1 with e1 e2 e3
    injection e1 with e1
    injection e1 with e1
    subst e1
    rw [hb.block g hg]; exact h3
theorem PlS.ext {w : World} {B : Nat} {v : Value} {n : Nat} {M M' : Nat → List Int} (h : PlS w B v n M) (e : ∀ i, i < n → M i = M' i) : PlS w B v n M' := by
  unfold PlS at *
  rw [← show (List.range (n * 64)).map (pcell M) = (List.range (n * 64)).map (pcell M') from List.map_congr_left fun j hj => by
    have := List.mem_range.1 hj
    unfold pcell; rw [e (j / 64) (by omega)]]
  exact h
section
variable {P : Program} {ops : Array Oper} {rest : List Oper} {o : Oper} {a : Act} {w : World} {Q : Exit → Act → World → Prop}
theorem wp_load_pl (ty : TypeId) (x : Operand) (ho : o.op = .load ty x) (g i : Nat) (hx : a.eval x = .pointer (some ⟨g, i * 64, none⟩)) (f : Nat → Int) (hc : ∀ j, j < 64 → w.cell? ⟨g, i * 64 + j, none⟩ = some (.int .u8 (f j))) (e : Nat)
    (hu : P.underlying ty = some (.array 64 e)) (hi : (P.info? ty).map (·.size) = some 64) :
    o.wp P a w (fun a' w' => a' = a.put o.dst (.agg (u8s 64 f)) ∧ Below w.heap.size w w') Q := by
  have hr := run_loadVar_mid (P := P) w g (i * 64) ty ((List.range 64).map (fun j => Value.int .u8 (f j))) (.array 64 e) (fun j v hv => by
    rw [List.getElem?_map] at hv
    obtain ⟨q, hq, rfl⟩ := Option.map_eq_some_iff.1 hv
    have hjn : j < 64 := by
      have := (List.getElem?_eq_some_iff.1 hq).1
      simpa using this
    rw [List.getElem?_range hjn] at hq
    obtain rfl := Option.some.inj hq
    exact hc j hjn) hu rfl (by simpa using hi)
  unfold Oper.wp execOp
  simp only [ho, hx, Instr.loadAt, Instr.sureAddr, Sem.run_bind, Sem.run_pure, Result.andThen_ok, hr]
  exact ⟨rfl, Below.refl _ _⟩
/-- A literal of no elements: a row of no cells, whatever an element's size. -/
theorem wpl_buildSlice_voidN (hw : Region.wanted o (yielded ops a.tmps) = true) (t e m : TypeId) (hop : o.op = .buildSlice t 0 #[]) (ht : P.underlying t = some (.slice e)) (hs : (P.info? e).map (·.size) = some m)
    (hz : ((P.info? e).bind (·.zero)).isSome = true)
    (h : wpList P ops Q rest (a.put o.dst (.slice (some ⟨w.heap.size, 0, none⟩) 0 0)) (w.alloc (.cells #[] e))) : wpList P ops Q (o :: rest) a w := by
  refine wpl_wanted hw fun K hK => ?_
  have hK := hK _ _ h
  obtain ⟨ie, hie, hse⟩ := Option.map_eq_some_iff.1 hs
  unfold Oper.wp execOp
  simp [hop, Instr.buildSlice, Sem.run_bind, run_underlying ht w, sizeOf, typeInfo, hie, hse, Instr.fill, newRow, newObj, Oper.upon]
  rw [show (Array.range 0).map (fun _ => (default : Value)) = #[] from by apply Array.ext_getElem?; intro i; simp]
  exact hK
end
section
variable {P : Program} {Q : Exit → Act → World → Prop} {o : Oper} {a : Act} {w : World}
theorem wp_index_pl (t e : TypeId) (m : Nat) (x i : Operand) (hop : o.op = .indexAddr t x i) (ht : P.underlying t = some (.slice e)) (hs : (P.info? e).map (·.size) = some m) (hm : m ≠ 0) (b n c k : Nat) (kd : IntKind)
    (hx : a.eval x = .slice (some ⟨b, 0, none⟩) n c) (hi : a.eval i = .int kd (k : Int)) (hk : k < n) : o.wp P a w (fun a' w' => a' = a.put o.dst (.pointer (some ⟨b, k * m, none⟩)) ∧ Below w.heap.size w w') Q := by
  obtain ⟨ie, hie, hse⟩ := Option.map_eq_some_iff.1 hs
  unfold Oper.wp execOp
  simp [hop, hx, hi, Instr.indexAt, run_underlying ht w, asIntOf, Sem.run_bind, sizeOf, typeInfo, hie, hse, hk, Oper.upon, Addr.add]
  refine ⟨?_, Below.refl _ _⟩
  by_cases h0 : k = 0
  · subst h0; simp
  · rw [if_neg (by intro h; rcases Nat.mul_eq_zero.1 h with h | h <;> omega)]
end
theorem PlS.void (w : World) (M : Nat → List Int) : PlS (w.alloc (.cells #[] 23)) w.heap.size (.slice (some ⟨w.heap.size, 0, none⟩) 0 0) 0 M := by
  have := World.ownsRow_made w (base := w.heap.size) (e := 23) (size := 64) #[] 0 (by simp) (by unfold maxLen; omega) rfl
  simpa [PlS] using this
theorem nx_len {p : Int} (hp : Pr p) {P : Nat} (hP : 2 ≤ P) {k i : Nat} (hi : i ≤ k) : (mulp p (tpow (P ^ i)) (bin p P k i)).length = (k + 1 - i) * P ^ i + 1 := by
  have hp2 := hp.pos
  have hb := ((bin_len hp hP k i).2 hi).1
  have ht : tpow (P ^ i) ≠ [] := fun e => by have := tpow_len (P ^ i); rw [e] at this; simp at this
  have hn : bin p P k i ≠ [] := fun e => by rw [e] at hb; simp at hb
  have hl := mulp_length hp (tpow_Po hp2.1 _) (bin_Po hp2.1 P k i) ht hn
  rw [tpow_len, hb] at hl
  rw [show k + 1 - i = k - i + 1 by omega, Nat.add_mul, Nat.one_mul]
  omega
theorem nx_step {p : Int} {P : Nat} (hp : Pr p) (hP : p = P) (k i : Nat) (hi : i ≤ k) (hk : k ≤ 5) (hfit : (k - i) * P ^ i ≤ 63) : ∃ W d1 F d2,
    (∀ w, Calls Try.prog 49 #[.int .i64 p, .agg (u8s 64 (cf [0, 1])), .int .i64 i] w fun e w' => e = .returned (.tuple #[.agg (u8s 64 (cf W)), .bool d1]) ∧ Below w.heap.size w w') ∧
    (∀ w, Calls Try.prog 50 #[.int .i64 p, .agg (u8s 64 (cf W)), .agg (u8s 64 (cf (bin p P k i)))] w fun e w' => e = .returned (.tuple #[.agg (u8s 64 F), .bool d2]) ∧ Below w.heap.size w w') ∧
    (d1 && d2) = decide ((k + 1 - i) * P ^ i ≤ 63) ∧ ((k + 1 - i) * P ^ i ≤ 63 → F = cf (mulp p (tpow (P ^ i)) (bin p P k i))) := by
  obtain ⟨h2, h7⟩ := pow7 hp hP
  have hp2 := hp.pos
  have hq0 : 0 < P ^ i := Nat.pow_pos (by omega)
  have hT : P64 p [0, 1] := ⟨hp, letter_Po hp2.1, by simp⟩
  have hr := fun w => l04Raise_any [0, 1] p P i (P ^ i) w hT hP rfl (by omega) _ rfl
  have hbl := ((bin_len hp h2 k i).2 hi).1
  have hB : P64 p (bin p P k i) := ⟨hp, bin_Po hp2.1 P k i, by omega⟩
  have hlen := nx_len hp h2 hi
  have e1 : ([0, 1] : List Int).length - 1 = 1 := rfl
  rw [e1, Nat.one_mul] at hr
  have hle : P ^ i ≤ (k + 1 - i) * P ^ i := Nat.le_mul_of_pos_left _ (by omega)
  by_cases hq : P ^ i ≤ 63
  · have hW : raiF [0, 1] (P ^ i) = cf (tpow (P ^ i)) := by unfold raiF; rw [e1, Nat.one_mul, if_pos hq, sprd_tpow hq0]
    rw [hW, decide_eq_true hq] at hr
    have hWP : P64 p (tpow (P ^ i)) := ⟨hp, tpow_Po hp2.1 _, by rw [tpow_len]; omega⟩
    refine ⟨_, _, _, _, hr, fun w => l01Times_any _ _ p w hWP hB, ?_, fun h => ?_⟩
    · rw [Bool.true_and]; exact decide_eq_decide.2 (by rw [hlen]; omega)
    · exact if_pos (by rw [hlen]; omega)
  · have hW : raiF [0, 1] (P ^ i) = cf [] := by unfold raiF; rw [e1, Nat.one_mul, if_neg hq, cf_void]
    rw [hW, decide_eq_false hq] at hr
    refine ⟨_, _, _, _, hr, fun w => l01Times_any _ _ p w (P64.nil hp) hB, ?_, fun h => absurd h (by omega)⟩
    rw [Bool.false_and]; exact (decide_eq_false (by omega)).symm
theorem nz_dec {xs : List Int} {n : Nat} (_ : xs.length = n + 1) (h : cf xs n = 1) (hn : n ≤ 63) {inst : Decidable (∀ i, i < 64 → cf xs i = cf [] i)} : @decide (∀ i, i < 64 → cf xs i = cf [] i) inst = false := decide_eq_false fun e => by
  have h2 := e n (by omega)
  rw [h, cf_nil] at h2; cases h2
theorem poly_new (w : World) (xs : List Int) : ∀ j u, ((u8s 64 (cf xs)).toList)[j]? = some u → (w.alloc (.cells (u8s (1 * 64) (polysF [cf xs])) 23)).cell? ⟨w.heap.size, j, none⟩ = some u := fun j u hj => by
  rw [(Blk.new w (u8s (1 * 64) (polysF [cf xs])) 23).cell]
  rw [Array.getElem?_toList] at hj
  by_cases h : j < 64
  · rw [u8s_get _ h] at hj
    rw [u8s_get _ (by omega), ← hj]
    unfold polysF
    rw [show j / 64 = 0 by omega, show j % 64 = j by omega]; rfl
  · rw [Array.getElem?_eq_none (by rw [u8s_size]; omega)] at hj; cases hj
theorem poly_one (xs : List Int) : ∀ u ∈ (u8s 64 (cf xs)).toList, u.oneCell' = true := fun u hu => (Array.all_eq_true_iff_forall_mem.1 (u8s_oneCell 64 (cf xs))) u (by simpa using hu)
set_option maxRecDepth 20000 in
set_option maxHeartbeats 4000000 in
theorem l04Next_any (v : Value) (p : Int) (P k B : Nat) (w : World) (hp : Pr p) (hP : p = P) (hk : k ≤ 5) (hfit : ∀ i, i ≤ k → (k - i) * P ^ i ≤ 63) (hL : PlS w B v (k + 1) (bin p P k)) (ok : Bool) (hok : decide (∀ i, i ≤ k → (k + 1 - i) * P ^ i ≤ 63) = ok) :
    Calls Try.prog 71 #[.int .i64 p, v] w fun e w' => ∃ v', e = .returned (.tuple #[v', .bool ok]) ∧ PlS w' w.heap.size v' (if ok then k + 2 else 0) (bin p P (k + 1)) ∧ Below w.heap.size w w' := by
  have hp2 := hp.pos
  obtain ⟨hP2, hP7⟩ := pow7 hp hP
  obtain ⟨gL, cL, rfl, hgL0⟩ := hL.form (by omega)
  have hst := Lib.hid (fun i (hi : i ≤ k) => nx_step hp hP k i hi hk (hfit i hi))
  have hLH := Lib.hid hL
  have hgL : gL < w.heap.size := block_lt_of_cell (hL.cells 0 (by omega) 0 (by omega))
  have hbl := Lib.hid (fun i (hi : i ≤ k) => (bin_len hp hP2 k i).2 hi)
  have hftH := Lib.hid hfit
  have hbE := Lib.hid (show mulp p (tpow (P ^ (k + 1))) (bin p P k (k + 1)) = [] by rw [(bin_len hp hP2 k (k + 1)).1 (by omega), mulp_nilR (by omega)])
  have hBP := Lib.hid (fun i (hi : i ≤ k) => (⟨hp, bin_Po hp2.1 P k i, by have := ((bin_len hp hP2 k i).2 hi).1; have := hfit i hi; omega⟩ : P64 p (bin p P k i)))
  have hDP := Lib.hid (fun i (hi : i ≤ k) (h : (k + 1 - i) * P ^ i ≤ 63) => (⟨hp, mulp_Po (by omega) _ _, by rw [nx_len hp hP2 hi]; omega⟩ : P64 p (mulp p (tpow (P ^ i)) (bin p P k i))))
  have hpH := Lib.hid hp
  have hokH := Lib.hid hok
  clear hp hP hfit hok hP2 hP7 hL
  go_enter Try.func71, Try.ntmps71
  go_wp2_with (first | (refine wpl_buildSlice_voidN rfl 29 23 64 rfl uPolys1 sPoly (by rw [zPoly]; rfl) ?_))
  go_loopw [6, 7] (fun vo iv wr => ∃ ix : Nat, ix ≤ k + 2 ∧ iv = .int .i64 (ix : Int) ∧ Hid (PlS wr w.heap.size vo ix (bin p P (k + 1))) ∧ Hid (PlS wr B (.slice (some ⟨gL, 0, none⟩) (k + 1) cL) (k + 1) (bin p P k)) ∧ Below w.heap.size w wr ∧ Hid (∀ j, j < ix → j ≤ k → (k + 1 - j) * P ^ j ≤ 63)) (fun _ iv _ => k + 2 - (intOf iv).toNat)
  case atStart => exact ⟨0, by omega, rfl, Lib.hid (PlS.void w _), Lib.hid (hLH.out.below (below_new _ _)), below_new _ _, Lib.hid fun j hj => absurd hj (by omega)⟩
  case round =>
    clear hLH
    obtain ⟨ix, hi, rfl, hV, hL, hb, hokI⟩ := hrel
    by_cases hin : ix < k + 1
    · -- an entry of the list
      obtain ⟨W, d1, F, d2, kR, kT, hdd, hF⟩ := hst.out ix (by omega)
      have kRH := Lib.hid kR
      have kTH := Lib.hid kT
      have hddH := Lib.hid hdd
      have hFH := Lib.hid hF
      clear kR kT hdd hF
      have hz := Below.refl wr.heap.size wr
      have hn := below_new wr (.cells (u8s 64 fun _ => 0) 23)
      have hW := Blk.new wr (u8s 64 fun _ => 0) 23
      replace hz := below_step hz hn
      clear hn
      go_wp2_with ((with_reducible refine wpl_guard ?_); first | (refine wpl_build_zero rfl 23 64 5 rfl _ uPoly sByte zPoly ?_) | (refine wpl_alloc_arr rfl 23 rfl _ zPoly ?_) | (refine wpl_store_new rfl 23 _ _ rfl _ rfl rfl _ rfl sPoly (by simp only [u8s_size]) (u8s_oneCell _ _) ?_))
      refine (l01T_any _).mono ?_
      rintro e y1 ⟨rfl, hn⟩
      replace hW := hW.keep hn
      replace hz := below_step hz hn
      clear hn
      go_wp2_with fail
      refine (kRH.out _).mono ?_
      rintro e y2 ⟨rfl, hn⟩
      replace hW := hW.keep hn
      replace hz := below_step hz hn
      clear hn
      have hn := below_new y2 (.cells (u8s 64 (cf W)) 23)
      have hQ := Blk.new y2 (u8s 64 (cf W)) 23
      replace hW := hW.keep hn
      replace hz := below_step hz hn
      clear hn
      have hLc := Lib.hid (hL.out.belowAt hz (Nat.lt_of_lt_of_le hgL hb.size))
      go_upto_region 8 with ((with_reducible refine wpl_guard ?_); first | (refine wpl_alloc_arr rfl 23 rfl _ zPoly ?_) | (refine wpl_store_new rfl 23 _ _ rfl _ rfl rfl _ rfl sPoly (by simp only [u8s_size]) (u8s_oneCell _ _) ?_))
      refine law_region2 (by kernel_rfl) (by kernel_rfl) (by kernel_rfl) (by kernel_rfl)
          (fun i => ([some (.int .i64 p), some (.agg (u8s 64 (cf W))), some (.slice (some ⟨gL, 0, none⟩) (k + 1) cL), some (.int .i64 (ix : Int)), some (.pointer (some ⟨gL, ix * 64, none⟩)), some (.agg (u8s 64 (cf (bin p P k ix)))), some (.tuple #[.agg (u8s 64 F), .bool d2]), some (.tuple #[.agg (u8s 64 F), .bool d2]), some (.agg (u8s 64 F)), some (.bool d2), none, none, some (.bool d2)] : List (Option Value)).getD i none) 1 (fun zk => [10].getD zk 0) (fun zk => [11].getD zk 0) (fun zk => [8].getD zk 0) (fun zk => [11].getD zk 0) (fun zk => [40].getD zk 0) (fun zk => [64].getD zk 0) (fun zk => [(F)].getD zk (fun _ => 0)) (fun zk => [23].getD zk 0) ?_ ?_ ?_ ?_ ?_ ?_
      · intro i hi
        rcases i with _|_|_|_|_|_|_|_|_|_|_|_|_|i
        · exact .inl ⟨_, rfl⟩
        · exact .inl ⟨_, rfl⟩
        · exact .inl ⟨_, rfl⟩
        · exact .inl ⟨_, rfl⟩
        · exact .inl ⟨_, rfl⟩
        · exact .inl ⟨_, rfl⟩
        · exact .inl ⟨_, rfl⟩
        · exact .inl ⟨_, rfl⟩
        · exact .inl ⟨_, rfl⟩
        · exact .inl ⟨_, rfl⟩
        · exact .inr (.inl ⟨0, by decide, rfl⟩)
        · exact .inr (.inr ⟨0, by decide, rfl⟩)
        · exact .inl ⟨_, rfl⟩
        · simp only [List.length_cons, List.length_nil] at hi; omega
      · intro k hk
        rcases k with _|k
        · exact ⟨rfl, rfl, rfl, zPoly⟩
        · omega
      · intro k hk k' hk'
        rcases k with _|k
        all_goals rcases k' with _|k'
        all_goals first | omega | exact ⟨by decide, by decide, by decide⟩
      · intro k hk
        rcases k with _|k
        · kernel_rfl
        · omega
      · intro i o c ho hc a w2 hBw hrd hpar
        rcases i with _|_|_|_|_|_|_|_|_|_|_|_|_|i
        · obtain rfl := Option.some.inj ho
          obtain rfl := Option.some.inj hc
          exact wp_move _ (.int .i64 p) rfl (hpar 0 _ (by kernel_rfl) (by kernel_rfl))
        · obtain rfl := Option.some.inj ho
          obtain rfl := Option.some.inj hc
          exact wp_loadB 23 _ rfl _ (hpar 9 (.pointer (some ⟨y2.heap.size, 0, none⟩)) (by kernel_rfl) (by kernel_rfl)) _ _ (hQ.keep hBw) _ _ uPoly sPoly
        · obtain rfl := Option.some.inj ho
          obtain rfl := Option.some.inj hc
          exact wp_move _ (.slice (some ⟨gL, 0, none⟩) (k + 1) cL) rfl (hpar 1 _ (by kernel_rfl) (by kernel_rfl))
        · obtain rfl := Option.some.inj ho
          obtain rfl := Option.some.inj hc
          exact wp_move _ (.int .i64 (ix : Int)) rfl (hpar 7 _ (by kernel_rfl) (by kernel_rfl))
        · obtain rfl := Option.some.inj ho
          obtain rfl := Option.some.inj hc
          exact wp_index_pl 29 23 64 _ _ rfl uPolys1 sPoly (by decide) gL (k + 1) cL ix .i64 (hrd 2 _ _ 35 rfl rfl rfl (by kernel_rfl) (by kernel_rfl)) (hrd 3 _ _ 36 rfl rfl rfl (by kernel_rfl) (by kernel_rfl)) hin
        · obtain rfl := Option.some.inj ho
          obtain rfl := Option.some.inj hc
          exact wp_load_pl 23 _ rfl gL ix (hrd 4 _ _ 37 rfl rfl rfl (by kernel_rfl) (by kernel_rfl)) _ ((hLc.out.below hBw).cells ix hin) _ uPoly sPoly
        · obtain rfl := Option.some.inj ho
          obtain rfl := Option.some.inj hc
          exact wp_callB 50 [.tmp 33, .tmp 34, .tmp 38] _ rfl [.int .i64 p, .agg (u8s 64 (cf W)), .agg (u8s 64 (cf (bin p P k ix)))] (by simp only [List.map_cons, List.map_nil, (hrd 0 _ _ 33 rfl rfl rfl (by kernel_rfl) (by kernel_rfl)), (hrd 1 _ _ 34 rfl rfl rfl (by kernel_rfl) (by kernel_rfl)), (hrd 5 _ _ 38 rfl rfl rfl (by kernel_rfl) (by kernel_rfl))]) Try.call50 _ (kTH.out w2)
        · obtain rfl := Option.some.inj ho
          obtain rfl := Option.some.inj hc
          exact wp_move _ (.tuple #[.agg (u8s 64 F), .bool d2]) rfl (hrd 6 _ _ 39 rfl rfl rfl (by kernel_rfl) (by kernel_rfl))
        · obtain rfl := Option.some.inj ho
          obtain rfl := Option.some.inj hc
          exact wp_extract _ 0 #[.agg (u8s 64 F), .bool d2] _ rfl (hrd 7 _ _ 32 rfl rfl rfl (by kernel_rfl) (by kernel_rfl)) rfl
        · obtain rfl := Option.some.inj ho
          obtain rfl := Option.some.inj hc
          exact wp_extract _ 1 #[.agg (u8s 64 F), .bool d2] _ rfl (hrd 7 _ _ 32 rfl rfl rfl (by kernel_rfl) (by kernel_rfl)) rfl
        · cases hc
        · cases hc
        · obtain rfl := Option.some.inj ho
          obtain rfl := Option.some.inj hc
          exact wp_assign _ (.bool d2) rfl (hrd 9 _ _ 41 rfl rfl rfl (by kernel_rfl) (by kernel_rfl))
        · cases hc
      intro vals xJ hBw hc hr
      have e0 : vals 0 = .int .i64 p := hc 0 _ (by simp) rfl
      have e1 : vals 1 = .agg (u8s 64 (cf W)) := hc 1 _ (by simp) rfl
      have e2 : vals 2 = .slice (some ⟨gL, 0, none⟩) (k + 1) cL := hc 2 _ (by simp) rfl
      have e3 : vals 3 = .int .i64 (ix : Int) := hc 3 _ (by simp) rfl
      have e4 : vals 4 = .pointer (some ⟨gL, ix * 64, none⟩) := hc 4 _ (by simp) rfl
      have e5 : vals 5 = .agg (u8s 64 (cf (bin p P k ix))) := hc 5 _ (by simp) rfl
      have e6 : vals 6 = .tuple #[.agg (u8s 64 F), .bool d2] := hc 6 _ (by simp) rfl
      have e7 : vals 7 = .tuple #[.agg (u8s 64 F), .bool d2] := hc 7 _ (by simp) rfl
      have e8 : vals 8 = .agg (u8s 64 F) := hc 8 _ (by simp) rfl
      have e9 : vals 9 = .bool d2 := hc 9 _ (by simp) rfl
      have e12 : vals 12 = .bool d2 := hc 12 _ (by simp) rfl
      obtain ⟨gJ0, p0, hgJ0, hJ0⟩ : ∃ g, vals 10 = .pointer (some ⟨g, 0, none⟩) ∧ _ ≤ g ∧ Blk xJ g (u8s 64 (F)) 23 := hr 0 (by decide)
      simp only [List.length_cons, List.length_nil, Nat.zero_add, Nat.reduceAdd, List.replicate, putAll, if_true, Act.put, List.setIfInBounds_toArray, List.set_cons_zero, List.set_cons_succ, e0, e1, e2, e3, e4, e5, e6, e7, e8, e9, e12, p0]
      replace hW := hW.keep hBw
      clear hc hr e0 e1 e2 e3 e4 e5 e6 e7 e8 e9 e12 p0
      replace hz := below_step hz hBw
      clear hBw hQ hLc
      rename World => y3
      have hcl := Lib.hid ((hL.out.belowAt hz (Nat.lt_of_lt_of_le hgL hb.size)).cells ix hin)
      have hbI := Lib.hid (hbl.out ix (by omega))
      have hfI := Lib.hid (hftH.out ix (by omega))
      cases d1
      · have hbad : ok = false := by
          rw [← hokH.out]; refine decide_eq_false fun h => ?_
          have h1 := hddH.out
          rw [decide_eq_true (h ix (by omega))] at h1; cases h1
        subst hbad
        go_wp2_with ((with_reducible refine wpl_guard ?_); first | (refine wpl_load_mid rfl 23 _ rfl gL (ix * 64) rfl 64 _ _ hcl.out uPoly sPoly ?_) | (refine wpl_build_zero rfl 23 64 5 rfl _ uPoly sByte zPoly ?_) | (refine wpl_neq_arr rfl 23 _ _ _ rfl 64 .u8 (cf (bin p P k ix)) (cf []) 5 rfl rfl uPoly uByte sByte gPoly _ (nz_dec hbI.out.1 hbI.out.2 hfI.out) ?_))
        go_ret2
        exact ⟨_, rfl, World.ownsRow_nil _ _ _ _, hb.trans (hz.mono hb.size)⟩
      · cases d2
        · have hbad : ok = false := by
            rw [← hokH.out]; refine decide_eq_false fun h => ?_
            have h1 := hddH.out
            rw [decide_eq_true (h ix (by omega))] at h1; cases h1
          subst hbad
          go_wp2_with ((with_reducible refine wpl_guard ?_); first | (refine wpl_load_mid rfl 23 _ rfl gL (ix * 64) rfl 64 _ _ hcl.out uPoly sPoly ?_) | (refine wpl_build_zero rfl 23 64 5 rfl _ uPoly sByte zPoly ?_) | (refine wpl_neq_arr rfl 23 _ _ _ rfl 64 .u8 (cf (bin p P k ix)) (cf []) 5 rfl rfl uPoly uByte sByte gPoly _ (nz_dec hbI.out.1 hbI.out.2 hfI.out) ?_))
          go_ret2
          exact ⟨_, rfl, World.ownsRow_nil _ _ _ _, hb.trans (hz.mono hb.size)⟩
        · have hgood : (k + 1 - ix) * P ^ ix ≤ 63 := of_decide_eq_true hddH.out.symm
          have hok2 := Lib.hid (fun j (hj : j < ix + 1) (hk : j ≤ k) => (by
            by_cases e : j = ix
            · subst e; exact hgood
            · exact hokI.out j (by omega) hk : (k + 1 - j) * P ^ j ≤ 63))
          have hFe := hFH.out hgood
          obtain ⟨D, hD⟩ : ∃ D, mulp p (tpow (P ^ ix)) (bin p P k ix) = D := ⟨_, rfl⟩
          have hDPH := Lib.hid (hDP.out ix (by omega) hgood)
          rw [hD] at hFe hDPH
          have hDH := Lib.hid hD
          subst hFe
          clear hD hgood hFH hddH kRH kTH
          go_upto_region 12 with ((with_reducible refine wpl_guard ?_); first | (refine wpl_load_mid rfl 23 _ rfl gL (ix * 64) rfl 64 _ _ hcl.out uPoly sPoly ?_) | (refine wpl_build_zero rfl 23 64 5 rfl _ uPoly sByte zPoly ?_) | (refine wpl_neq_arr rfl 23 _ _ _ rfl 64 .u8 (cf (bin p P k ix)) (cf []) 5 rfl rfl uPoly uByte sByte gPoly _ (nz_dec hbI.out.1 hbI.out.2 hfI.out) ?_) | (refine wpl_load_arr rfl 23 _ rfl _ rfl _ _ hJ0 _ _ uPoly sPoly ?_) | (refine wpl_store_arr rfl 23 _ _ rfl _ rfl _ rfl _ _ hW sPoly (by simp only [u8s_size]) (u8s_oneCell _ _) ?_))
          have hW2 := hW.setRow_same (cs := u8s 64 (cf D))
          have hz2 := below_setRow hz (g := wr.heap.size) (Nat.le_refl _) (u8s 64 (cf D))
          clear hW hz hJ0 hcl hbI hfI
          generalize World.setRow _ wr.heap.size (u8s 64 (cf D)) = vW at *
          have hW := hW2
          have hz := hz2
          clear hW2 hz2 hgJ0
          cases ix with
          | zero =>
            have hbin := Lib.hid (by rw [show bin p P (k + 1) 0 = mulp p (tpow (P ^ 0)) (bin p P k 0) from rfl]; exact hDH.out : bin p P (k + 1) 0 = D)
            go_upto_region 14 with (fail)
            have hV1 := hV.out.below hz
            have hbc := hb.trans (hz.mono hb.size)
            have hLz := hL.out.belowAt hz (Nat.lt_of_lt_of_le hgL hb.size)
            rename World => yw
            have hV2 := Lib.hid (hV1.below (below_new _ (.cells (u8s (1 * 64) (polysF [cf D])) 23)))
            have hL2 := Lib.hid (hLz.below (below_new _ (.cells (u8s (1 * 64) (polysF [cf D])) 23)))
            have hnewH := Lib.hid (poly_new yw D)
            have h1c := Lib.hid (poly_one D)
            have hsz := hbc.size
            have hb3 := hbc.alloc hsz (.cells (u8s (1 * 64) (polysF [cf D])) 23)
            clear hV1 hLz hbc hz
            go_wp2_with ((with_reducible refine wpl_guard ?_); first | (refine wpl_load_arr rfl 23 _ rfl _ rfl _ _ hW _ _ uPoly sPoly ?_) | (refine wpl_buildSlice_polys rfl 29 23 1 _ rfl Try.underlying29 sPoly zPoly [cf D] rfl (by decide) (by decide) rfl ?_) | (at_builtin; refine wpl_append_one rfl _ _ 29 rfl w.heap.size 23 _ 64 64 Try.underlying29 iPoly (by simp [Value.cells, u8s_size]) (by decide) (by decide) _ (0) _ rfl hV2.out yw.heap.size rfl (u8s 64 (cf D)).toList (by rw [Array.length_toList, u8s_size]) hnewH.out h1c.out (by omega) (by simp only [size_alloc]; omega) ?_))
            intro v' w9 hown3 hbb2
            have hP3 : PlS w9 w.heap.size v' (0 + 1) (bin p P (k + 1)) := by unfold PlS; rw [pcells_succ, hbin.out]; exact hown3
            have hP3H := Lib.hid hP3
            have hb4 := hb3.trans hbb2
            have hL3 := Lib.hid (hL2.out.belowAt hbb2 hgL)
            clear hown3 hbb2 hP3 hL2
            go_wp2_with fail
            go_roundw
            case rel => exact ⟨0 + 1, by omega, by go_num, hP3H, hL3, hb4, hok2⟩
            case measure => simp [intOf] <;> omega
          | succ j =>
            go_upto_region 13 with (fail)
            have hLc := Lib.hid (hL.out.belowAt hz (Nat.lt_of_lt_of_le hgL hb.size))
            go_upto_region 13 with (fail)
            refine gen_last (w := _) (by kernel_rfl) (by kernel_rfl) (by kernel_rfl) 8 (by kernel_rfl)
                (fun i => ([fun zv _ => zv = .int .i64 p, fun zv _ => zv = .agg (u8s 64 (cf D)), fun zv _ => zv = .slice (some ⟨gL, 0, none⟩) (k + 1) cL, fun zv _ => zv = .int .i64 ((j + 1 : Nat) : Int), fun zv _ => zv = .int .i64 ((j : Nat) : Int), fun zv _ => zv = .pointer (some ⟨gL, j * 64, none⟩), fun zv _ => zv = .agg (u8s 64 (cf (bin p P k j))), fun zv _ => zv = .agg (u8s 64 (cf (addp p D (bin p P k j) 1))), fun _ _ => True] : List (Value → World → Prop)).getD i (fun _ _ => True))
                (fun w' => Blk w' (wr.heap.size) (u8s 64 (cf D)) 23 ∧ True) ⟨hW.drew, trivial⟩ (fun w1 w2 h hb => ⟨h.1.keep hb, trivial⟩) ?_ ?_ ?_
            · intro i v w1 w2 h hb
              rcases i with _|_|_|_|_|_|_|_|_|i
              · exact h
              · exact h
              · exact h
              · exact h
              · exact h
              · exact h
              · exact h
              · exact h
              · exact h
              · exact h
            · intro i o ho hiZ a w2 hBl hSx hrd hpar
              rcases i with _|_|_|_|_|_|_|_|_|i
              · obtain rfl := Option.some.inj ho
                refine .inl ⟨rfl, ?_⟩
                have e0 : a.eval (.tmp 0) = .int .i64 p := hpar 0 _ (by kernel_rfl) (by kernel_rfl)
                exact wpv_of (wp_move _ _ rfl e0) (fun _ _ => rfl)
              · obtain rfl := Option.some.inj ho
                refine .inl ⟨rfl, ?_⟩
                exact wpv_of (wp_loadB 23 _ rfl _ (hpar 8 (.pointer (some ⟨wr.heap.size, 0, none⟩)) (by kernel_rfl) (by kernel_rfl)) _ _ hSx.1 _ _ uPoly sPoly) (fun _ _ => rfl)
              · obtain rfl := Option.some.inj ho
                refine .inl ⟨rfl, ?_⟩
                have e1 : a.eval (.tmp 1) = .slice (some ⟨gL, 0, none⟩) (k + 1) cL := hpar 1 _ (by kernel_rfl) (by kernel_rfl)
                exact wpv_of (wp_move _ _ rfl e1) (fun _ _ => rfl)
              · obtain rfl := Option.some.inj ho
                refine .inl ⟨rfl, ?_⟩
                have e7 : a.eval (.tmp 7) = .int .i64 ((j + 1 : Nat) : Int) := hpar 7 _ (by kernel_rfl) (by kernel_rfl)
                exact wpv_of (wp_move _ _ rfl e7) (fun _ _ => rfl)
              · obtain rfl := Option.some.inj ho
                refine .inl ⟨rfl, ?_⟩
                have e62 : a.eval (.tmp 62) = .int .i64 ((j + 1 : Nat) : Int) := hrd 3 _ 62 rfl rfl (by kernel_rfl) (by kernel_rfl)
                exact wpv_of (wp_dec _ _ _ rfl j e62 (by omega)) (fun _ _ => rfl)
              · obtain rfl := Option.some.inj ho
                refine .inl ⟨rfl, ?_⟩
                have e61 : a.eval (.tmp 61) = .slice (some ⟨gL, 0, none⟩) (k + 1) cL := hrd 2 _ 61 rfl rfl (by kernel_rfl) (by kernel_rfl)
                have e63 : a.eval (.tmp 63) = .int .i64 ((j : Nat) : Int) := hrd 4 _ 63 rfl rfl (by kernel_rfl) (by kernel_rfl)
                exact wpv_of (wp_index_pl 29 23 64 _ _ rfl uPolys1 sPoly (by decide) gL (k + 1) cL j .i64 e61 e63 (by omega)) (fun _ _ => rfl)
              · obtain rfl := Option.some.inj ho
                refine .inl ⟨rfl, ?_⟩
                have e64 : a.eval (.tmp 64) = .pointer (some ⟨gL, j * 64, none⟩) := hrd 5 _ 64 rfl rfl (by kernel_rfl) (by kernel_rfl)
                exact wpv_of (wp_load_pl 23 _ rfl gL j e64 _ ((hLc.out.below hBl).cells j (by omega)) _ uPoly sPoly) (fun _ _ => rfl)
              · obtain rfl := Option.some.inj ho
                refine .inl ⟨rfl, ?_⟩
                have e59 : a.eval (.tmp 59) = .int .i64 p := hrd 0 _ 59 rfl rfl (by kernel_rfl) (by kernel_rfl)
                have e60 : a.eval (.tmp 60) = .agg (u8s 64 (cf D)) := hrd 1 _ 60 rfl rfl (by kernel_rfl) (by kernel_rfl)
                have e65 : a.eval (.tmp 65) = .agg (u8s 64 (cf (bin p P k j))) := hrd 6 _ 65 rfl rfl (by kernel_rfl) (by kernel_rfl)
                exact wpv_call 42 [.tmp 59, .tmp 60, .tmp 65, .const (.int .i64 1)] _ rfl [.int .i64 p, .agg (u8s 64 (cf D)), .agg (u8s 64 (cf (bin p P k j))), .int .i64 1] (by simp only [List.map_cons, List.map_nil, e59, e60, e65, eval_const]) Try.call42 ((l01Add_list D (bin p P k j) p 1 w2 hDPH.out (hBP.out j (by omega)) (by decide) (by decide)).mono fun _ _ h => ⟨_, h.1, rfl, h.2⟩)
              · obtain rfl := Option.some.inj ho
                exact absurd rfl hiZ
              · simp at ho
            intro oZ hoZ vals xE hBx hSx hc0
            obtain rfl := Option.some.inj hoZ
            clear hoZ
            have e0 : vals 0 = .int .i64 p := hc0 0 (by simp) (by decide)
            have e1 : vals 1 = .agg (u8s 64 (cf D)) := hc0 1 (by simp) (by decide)
            have e2 : vals 2 = .slice (some ⟨gL, 0, none⟩) (k + 1) cL := hc0 2 (by simp) (by decide)
            have e3 : vals 3 = .int .i64 ((j + 1 : Nat) : Int) := hc0 3 (by simp) (by decide)
            have e4 : vals 4 = .int .i64 ((j : Nat) : Int) := hc0 4 (by simp) (by decide)
            have e5 : vals 5 = .pointer (some ⟨gL, j * 64, none⟩) := hc0 5 (by simp) (by decide)
            have e6 : vals 6 = .agg (u8s 64 (cf (bin p P k j))) := hc0 6 (by simp) (by decide)
            have e7 : vals 7 = .agg (u8s 64 (cf (addp p D (bin p P k j) 1))) := hc0 7 (by simp) (by decide)
            refine ⟨rfl, ?_⟩
            simp only [List.length_cons, List.length_nil, Nat.zero_add, Nat.reduceAdd, List.replicate, seenAll, Bool.false_eq_true, if_false, putAll, if_true, Act.put, List.setIfInBounds_toArray, List.set_cons_zero, List.set_cons_succ, e0, e1, e2, e3, e4, e5, e6, e7]
            replace hW := hSx.1
            replace hz := below_step hz hBx
            clear hc0 hSx e0 e1 e2 e3 e4 e5 e6 e7
            have hbin := Lib.hid (by rw [show bin p P (k + 1) (j + 1) = addp p (mulp p (tpow (P ^ (j + 1))) (bin p P k (j + 1))) (bin p P k j) 1 from rfl, hDH.out] : bin p P (k + 1) (j + 1) = addp p D (bin p P k j) 1)
            obtain ⟨X, hX⟩ : ∃ X, addp p D (bin p P k j) 1 = X := ⟨_, rfl⟩
            rw [hX] at hbin ⊢
            refine wp_store_arr 23 _ _ rfl wr.heap.size rfl (u8s 64 (cf X)) rfl (u8s 64 (cf D)) _ hW sPoly (by simp only [u8s_size]) (u8s_oneCell _ _) ?_
            have hW2 := hW.setRow_same (cs := u8s 64 (cf X))
            have hz2 := below_setRow hz (g := wr.heap.size) (Nat.le_refl _) (u8s 64 (cf X))
            clear hW hz hLc hBx hX hDPH
            generalize World.setRow xE wr.heap.size (u8s 64 (cf X)) = vE at *
            have hW := hW2
            have hz := hz2
            clear hW2 hz2
            go_upto_region 14 with (fail)
            have hV1 := hV.out.below hz
            have hbc := hb.trans (hz.mono hb.size)
            have hLz := hL.out.belowAt hz (Nat.lt_of_lt_of_le hgL hb.size)
            rename World => yw
            have hV2 := Lib.hid (hV1.below (below_new _ (.cells (u8s (1 * 64) (polysF [cf X])) 23)))
            have hL2 := Lib.hid (hLz.below (below_new _ (.cells (u8s (1 * 64) (polysF [cf X])) 23)))
            have hnewH := Lib.hid (poly_new yw X)
            have h1c := Lib.hid (poly_one X)
            have hsz := hbc.size
            have hb3 := hbc.alloc hsz (.cells (u8s (1 * 64) (polysF [cf X])) 23)
            clear hV1 hLz hbc hz
            go_wp2_with ((with_reducible refine wpl_guard ?_); first | (refine wpl_load_arr rfl 23 _ rfl _ rfl _ _ hW _ _ uPoly sPoly ?_) | (refine wpl_buildSlice_polys rfl 29 23 1 _ rfl Try.underlying29 sPoly zPoly [cf X] rfl (by decide) (by decide) rfl ?_) | (at_builtin; refine wpl_append_one rfl _ _ 29 rfl w.heap.size 23 _ 64 64 Try.underlying29 iPoly (by simp [Value.cells, u8s_size]) (by decide) (by decide) _ ((j + 1)) _ rfl hV2.out yw.heap.size rfl (u8s 64 (cf X)).toList (by rw [Array.length_toList, u8s_size]) hnewH.out h1c.out (by omega) (by simp only [size_alloc]; omega) ?_))
            intro v' w9 hown3 hbb2
            have hP3 : PlS w9 w.heap.size v' ((j + 1) + 1) (bin p P (k + 1)) := by unfold PlS; rw [pcells_succ, hbin.out]; exact hown3
            have hP3H := Lib.hid hP3
            have hb4 := hb3.trans hbb2
            have hL3 := Lib.hid (hL2.out.belowAt hbb2 hgL)
            clear hown3 hbb2 hP3 hL2
            go_wp2_with fail
            go_roundw
            case rel => exact ⟨(j + 1) + 1, by omega, by go_num, hP3H, hL3, hb4, hok2⟩
            case measure => simp [intOf] <;> omega
    · by_cases hfin : ix = k + 1
      · subst hfin
        have hz := Below.refl wr.heap.size wr
        have hn := below_new wr (.cells (u8s 64 fun _ => 0) 23)
        have hW := Blk.new wr (u8s 64 fun _ => 0) 23
        replace hz := below_step hz hn
        clear hn
        go_upto_region 13 with ((with_reducible refine wpl_guard ?_); first | (refine wpl_build_zero rfl 23 64 5 rfl _ uPoly sByte zPoly ?_) | (refine wpl_alloc_arr rfl 23 rfl _ zPoly ?_) | (refine wpl_store_new rfl 23 _ _ rfl _ rfl rfl _ rfl sPoly (by simp only [u8s_size]) (u8s_oneCell _ _) ?_))
        have hok2 := Lib.hid (fun j (hj : j < k + 1 + 1) (hk : j ≤ k) => (hokI.out j (by omega) hk : (k + 1 - j) * P ^ j ≤ 63))
        obtain ⟨D, hD⟩ : ∃ D : List Int, [] = D := ⟨_, rfl⟩
        have hDPH := Lib.hid (P64.nil hpH.out)
        have hDH := hbE
        replace hW := hW.cast (u8s_ext (g := cf D) fun q _ => by rw [← hD, cf_nil])
        rw [hD] at hDH hDPH
        clear hD
        have hLc := Lib.hid (hL.out.belowAt hz (Nat.lt_of_lt_of_le hgL hb.size))
        go_upto_region 13 with (fail)
        refine gen_last (w := _) (by kernel_rfl) (by kernel_rfl) (by kernel_rfl) 8 (by kernel_rfl)
            (fun i => ([fun zv _ => zv = .int .i64 p, fun zv _ => zv = .agg (u8s 64 (cf D)), fun zv _ => zv = .slice (some ⟨gL, 0, none⟩) (k + 1) cL, fun zv _ => zv = .int .i64 ((k + 1 : Nat) : Int), fun zv _ => zv = .int .i64 ((k : Nat) : Int), fun zv _ => zv = .pointer (some ⟨gL, k * 64, none⟩), fun zv _ => zv = .agg (u8s 64 (cf (bin p P k k))), fun zv _ => zv = .agg (u8s 64 (cf (addp p D (bin p P k k) 1))), fun _ _ => True] : List (Value → World → Prop)).getD i (fun _ _ => True))
            (fun w' => Blk w' (wr.heap.size) (u8s 64 (cf D)) 23 ∧ True) ⟨hW.drew, trivial⟩ (fun w1 w2 h hb => ⟨h.1.keep hb, trivial⟩) ?_ ?_ ?_
        · intro i v w1 w2 h hb
          rcases i with _|_|_|_|_|_|_|_|_|i
          · exact h
          · exact h
          · exact h
          · exact h
          · exact h
          · exact h
          · exact h
          · exact h
          · exact h
          · exact h
        · intro i o ho hiZ a w2 hBl hSx hrd hpar
          rcases i with _|_|_|_|_|_|_|_|_|i
          · obtain rfl := Option.some.inj ho
            refine .inl ⟨rfl, ?_⟩
            have e0 : a.eval (.tmp 0) = .int .i64 p := hpar 0 _ (by kernel_rfl) (by kernel_rfl)
            exact wpv_of (wp_move _ _ rfl e0) (fun _ _ => rfl)
          · obtain rfl := Option.some.inj ho
            refine .inl ⟨rfl, ?_⟩
            exact wpv_of (wp_loadB 23 _ rfl _ (hpar 8 (.pointer (some ⟨wr.heap.size, 0, none⟩)) (by kernel_rfl) (by kernel_rfl)) _ _ hSx.1 _ _ uPoly sPoly) (fun _ _ => rfl)
          · obtain rfl := Option.some.inj ho
            refine .inl ⟨rfl, ?_⟩
            have e1 : a.eval (.tmp 1) = .slice (some ⟨gL, 0, none⟩) (k + 1) cL := hpar 1 _ (by kernel_rfl) (by kernel_rfl)
            exact wpv_of (wp_move _ _ rfl e1) (fun _ _ => rfl)
          · obtain rfl := Option.some.inj ho
            refine .inl ⟨rfl, ?_⟩
            have e7 : a.eval (.tmp 7) = .int .i64 ((k + 1 : Nat) : Int) := hpar 7 _ (by kernel_rfl) (by kernel_rfl)
            exact wpv_of (wp_move _ _ rfl e7) (fun _ _ => rfl)
          · obtain rfl := Option.some.inj ho
            refine .inl ⟨rfl, ?_⟩
            have e62 : a.eval (.tmp 62) = .int .i64 ((k + 1 : Nat) : Int) := hrd 3 _ 62 rfl rfl (by kernel_rfl) (by kernel_rfl)
            exact wpv_of (wp_dec _ _ _ rfl k e62 (by omega)) (fun _ _ => rfl)
          · obtain rfl := Option.some.inj ho
            refine .inl ⟨rfl, ?_⟩
            have e61 : a.eval (.tmp 61) = .slice (some ⟨gL, 0, none⟩) (k + 1) cL := hrd 2 _ 61 rfl rfl (by kernel_rfl) (by kernel_rfl)
            have e63 : a.eval (.tmp 63) = .int .i64 ((k : Nat) : Int) := hrd 4 _ 63 rfl rfl (by kernel_rfl) (by kernel_rfl)
            exact wpv_of (wp_index_pl 29 23 64 _ _ rfl uPolys1 sPoly (by decide) gL (k + 1) cL k .i64 e61 e63 (by omega)) (fun _ _ => rfl)
          · obtain rfl := Option.some.inj ho
            refine .inl ⟨rfl, ?_⟩
            have e64 : a.eval (.tmp 64) = .pointer (some ⟨gL, k * 64, none⟩) := hrd 5 _ 64 rfl rfl (by kernel_rfl) (by kernel_rfl)
            exact wpv_of (wp_load_pl 23 _ rfl gL k e64 _ ((hLc.out.below hBl).cells k (by omega)) _ uPoly sPoly) (fun _ _ => rfl)
          · obtain rfl := Option.some.inj ho
            refine .inl ⟨rfl, ?_⟩
            have e59 : a.eval (.tmp 59) = .int .i64 p := hrd 0 _ 59 rfl rfl (by kernel_rfl) (by kernel_rfl)
            have e60 : a.eval (.tmp 60) = .agg (u8s 64 (cf D)) := hrd 1 _ 60 rfl rfl (by kernel_rfl) (by kernel_rfl)
            have e65 : a.eval (.tmp 65) = .agg (u8s 64 (cf (bin p P k k))) := hrd 6 _ 65 rfl rfl (by kernel_rfl) (by kernel_rfl)
            exact wpv_call 42 [.tmp 59, .tmp 60, .tmp 65, .const (.int .i64 1)] _ rfl [.int .i64 p, .agg (u8s 64 (cf D)), .agg (u8s 64 (cf (bin p P k k))), .int .i64 1] (by simp only [List.map_cons, List.map_nil, e59, e60, e65, eval_const]) Try.call42 ((l01Add_list D (bin p P k k) p 1 w2 hDPH.out (hBP.out k (by omega)) (by decide) (by decide)).mono fun _ _ h => ⟨_, h.1, rfl, h.2⟩)
          · obtain rfl := Option.some.inj ho
            exact absurd rfl hiZ
          · simp at ho
        intro oZ hoZ vals xE hBx hSx hc0
        obtain rfl := Option.some.inj hoZ
        clear hoZ
        have e0 : vals 0 = .int .i64 p := hc0 0 (by simp) (by decide)
        have e1 : vals 1 = .agg (u8s 64 (cf D)) := hc0 1 (by simp) (by decide)
        have e2 : vals 2 = .slice (some ⟨gL, 0, none⟩) (k + 1) cL := hc0 2 (by simp) (by decide)
        have e3 : vals 3 = .int .i64 ((k + 1 : Nat) : Int) := hc0 3 (by simp) (by decide)
        have e4 : vals 4 = .int .i64 ((k : Nat) : Int) := hc0 4 (by simp) (by decide)
        have e5 : vals 5 = .pointer (some ⟨gL, k * 64, none⟩) := hc0 5 (by simp) (by decide)
        have e6 : vals 6 = .agg (u8s 64 (cf (bin p P k k))) := hc0 6 (by simp) (by decide)
        have e7 : vals 7 = .agg (u8s 64 (cf (addp p D (bin p P k k) 1))) := hc0 7 (by simp) (by decide)
        refine ⟨rfl, ?_⟩
        simp only [List.length_cons, List.length_nil, Nat.zero_add, Nat.reduceAdd, List.replicate, seenAll, Bool.false_eq_true, if_false, putAll, if_true, Act.put, List.setIfInBounds_toArray, List.set_cons_zero, List.set_cons_succ, e0, e1, e2, e3, e4, e5, e6, e7]
        replace hW := hSx.1
        replace hz := below_step hz hBx
        clear hc0 hSx e0 e1 e2 e3 e4 e5 e6 e7
        have hbin := Lib.hid (by rw [show bin p P (k + 1) (k + 1) = addp p (mulp p (tpow (P ^ (k + 1))) (bin p P k (k + 1))) (bin p P k k) 1 from rfl, hDH.out] : bin p P (k + 1) (k + 1) = addp p D (bin p P k k) 1)
        obtain ⟨X, hX⟩ : ∃ X, addp p D (bin p P k k) 1 = X := ⟨_, rfl⟩
        rw [hX] at hbin ⊢
        refine wp_store_arr 23 _ _ rfl wr.heap.size rfl (u8s 64 (cf X)) rfl (u8s 64 (cf D)) _ hW sPoly (by simp only [u8s_size]) (u8s_oneCell _ _) ?_
        have hW2 := hW.setRow_same (cs := u8s 64 (cf X))
        have hz2 := below_setRow hz (g := wr.heap.size) (Nat.le_refl _) (u8s 64 (cf X))
        clear hW hz hLc hBx hX hDPH
        generalize World.setRow xE wr.heap.size (u8s 64 (cf X)) = vE at *
        have hW := hW2
        have hz := hz2
        clear hW2 hz2
        go_upto_region 14 with (fail)
        have hV1 := hV.out.below hz
        have hbc := hb.trans (hz.mono hb.size)
        have hLz := hL.out.belowAt hz (Nat.lt_of_lt_of_le hgL hb.size)
        rename World => yw
        have hV2 := Lib.hid (hV1.below (below_new _ (.cells (u8s (1 * 64) (polysF [cf X])) 23)))
        have hL2 := Lib.hid (hLz.below (below_new _ (.cells (u8s (1 * 64) (polysF [cf X])) 23)))
        have hnewH := Lib.hid (poly_new yw X)
        have h1c := Lib.hid (poly_one X)
        have hsz := hbc.size
        have hb3 := hbc.alloc hsz (.cells (u8s (1 * 64) (polysF [cf X])) 23)
        clear hV1 hLz hbc hz
        go_wp2_with ((with_reducible refine wpl_guard ?_); first | (refine wpl_load_arr rfl 23 _ rfl _ rfl _ _ hW _ _ uPoly sPoly ?_) | (refine wpl_buildSlice_polys rfl 29 23 1 _ rfl Try.underlying29 sPoly zPoly [cf X] rfl (by decide) (by decide) rfl ?_) | (at_builtin; refine wpl_append_one rfl _ _ 29 rfl w.heap.size 23 _ 64 64 Try.underlying29 iPoly (by simp [Value.cells, u8s_size]) (by decide) (by decide) _ ((k + 1)) _ rfl hV2.out yw.heap.size rfl (u8s 64 (cf X)).toList (by rw [Array.length_toList, u8s_size]) hnewH.out h1c.out (by omega) (by simp only [size_alloc]; omega) ?_))
        intro v' w9 hown3 hbb2
        have hP3 : PlS w9 w.heap.size v' ((k + 1) + 1) (bin p P (k + 1)) := by unfold PlS; rw [pcells_succ, hbin.out]; exact hown3
        have hP3H := Lib.hid hP3
        have hb4 := hb3.trans hbb2
        have hL3 := Lib.hid (hL2.out.belowAt hbb2 hgL)
        clear hown3 hbb2 hP3 hL2
        go_wp2_with fail
        go_roundw
        case rel => exact ⟨(k + 1) + 1, by omega, by go_num, hP3H, hL3, hb4, hok2⟩
        case measure => simp [intOf] <;> omega
      · obtain rfl : ix = k + 2 := by omega
        have hgood : ok = true := by
          rw [← hokH.out]; exact decide_eq_true fun j hj => hokI.out j (by omega) hj
        subst hgood
        go_wp2_with fail
        go_ret2
        exact ⟨_, rfl, hV.out, hb⟩
end Go.Proofs.Ytionaenmjndncab
