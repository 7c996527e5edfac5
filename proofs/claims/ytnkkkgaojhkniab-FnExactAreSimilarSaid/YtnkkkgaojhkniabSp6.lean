/- Walks: the reference's quotients of greatest common divisors. -/
import Derived.Test.YtnkkkgaojhkniabSp5
set_option linter.unusedVariables false
set_option linter.unusedSimpArgs false
namespace Go.Proofs.Ytnkkkgaojhkniab
open Go.RowKit
section
variable {P : Program} {ops : Array Oper} {rest : List Oper} {o : Oper} {a : Act} {w : World} {Q : Exit → Act → World → Prop}
theorem wp_inc (t t' : TypeId) (x : Operand) (hop : o.op = .binOp .add t x (.const (.int .i64 1)) t') (j : Nat) (hx : a.eval x = .int .i64 (j : Int)) (hj : j ≤ 1000000) :
    o.wp P a w (fun a' w' => a' = a.put o.dst (.int .i64 ((j : Int) + 1)) ∧ Below w.heap.size w w') Q := by
  have hw : IntKind.i64.wrap ((j : Int) + 1) = (j : Int) + 1 := by rw [IntKind.wrap_i64]; omega
  unfold Oper.wp execOp
  have hc : a.eval (.const (.int .i64 1)) = .int .i64 1 := rfl
  simp only [hop, hx, hc]
  simp only [eqGuard, binOp, Op.intArith, Sem.run_bind, Sem.run_pure, Result.andThen_ok, Bool.not_false, if_true, hw, Oper.upon]
  simp only [ne_eq, not_true, if_false, Sem.run_pure, Result.andThen_ok]
  exact ⟨trivial, Below.refl _ _⟩
/-- A new list of arrays of zeros. -/
theorem wpv_make_bs (t e : TypeId) (l c : Operand) (hop : o.op = .makeSlice t l c) (ht : P.underlying t = some (.slice e))
    (hinfo : (P.info? e).map (fun i => (i.zero, i.size, i.bytes)) = some (some (.agg (u8s 64 fun _ => 0)), 64, 64))
    (kl kc : IntKind) (n : Nat) (hl : a.eval l = .int kl (n : Int)) (hc : a.eval c = .int kc (n : Int)) (hn : n ≤ 10000000) (B : Nat) (hB : B ≤ w.heap.size) :
    WpV P o a w (fun v w' => ∃ g, v = .slice (some ⟨g, 0, none⟩) n n ∧ B ≤ g ∧ BsL e 64 w' B v n (fun _ => [])) Q := by
  obtain ⟨i, hi, hz, hsz, hby⟩ := info_parts hinfo
  obtain ⟨w', hr, h2, h3⟩ := run_make_full (P := P) w B t e i _ 64 ht hi hz hsz kl kc n (by rw [hby]; omega) (by unfold maxLen; omega) hB
  have h4 : BsL e 64 w' B (.slice (some ⟨w.heap.size, 0, none⟩) n n) n (fun _ => []) := by
    unfold BsL
    have e : (madeCells (Value.agg (u8s 64 fun _ => 0)).cells (n * 64)).toList = (List.range (n * 64)).map (bcell 64 fun _ => []) := by
      apply List.ext_getElem?
      intro j
      by_cases hj : j < n * 64
      · rw [List.getElem?_map, List.getElem?_range hj]
        have h5 : (u8s 64 fun _ => 0)[j % 64]? = some (Value.int .u8 0) := u8s_get _ (by omega)
        have h6 : (u8s 64 fun _ => 0)[j % 64]! = Value.int .u8 0 := by rw [getElem!_def, h5]
        simp [madeCells, Value.cells, hj, u8s_size, h6, bcell, cf_nil]
      · rw [List.getElem?_eq_none (by simp [madeCells]; omega), List.getElem?_eq_none (by simp; omega)]
    rw [← e]; exact h2
  have hb := grownK_below h3 (fun k e => by cases e) (Nat.le_refl _)
  unfold WpV Oper.wp execOp
  simp only [hop, hl, hc, Sem.run_bind, hr, Result.andThen_ok]
  exact ⟨_, rfl, ⟨_, rfl, hB, h4⟩, hb⟩
theorem wpl_store_b64 (hw : Region.wanted o (yielded ops a.tmps) = true) (t : TypeId) (x y : Operand) (hop : o.op = .store t x y) (g k : Nat) (hx : a.eval x = .pointer (some ⟨g, k * 64, none⟩)) (xs : List Int) (hy : a.eval y = .agg (u8s 64 (cf xs)))
    (B n cap : Nat) (M : Nat → List Int) (T : Nat) (hP : BsL T 64 w B (.slice (some ⟨g, 0, none⟩) n cap) n M) (hk : k < n) (hs : (P.info? t).map (·.size) = some 64)
    (h : ∀ w', BsL T 64 w' B (.slice (some ⟨g, 0, none⟩) n cap) n (fun q => if q = k then xs else M q) → w.grownBy w' (some g) → wpList P ops Q rest (a.put o.dst undef) w') : wpList P ops Q (o :: rest) a w :=
  wpl_wanted hw fun _ hK => wp_store_b64 t x y hop g k hx xs hy B n cap M T hP hk hs fun w' h1 h2 => hK _ _ (h w' h1 h2)
end
section
variable {p : Int} {n k : Nat} {E : MxL}
theorem IsG.len (hp : Pr p) (hn : n ≤ 6) (hk : k ≤ 6) (hE : ∀ i j, i < n → j < n → Po p (E i j) ∧ (E i j).length ≤ 2) {g : List Int} (hg : IsG p n k (cfm E) g) : g.length ≤ 8 := by
  have hp2 := hp.pos
  refine Classical.byContradiction fun hl => hg.ne ?_
  have h1 := (all_bits hp hn hk hE).1 hg.dv
  have h2 : ∀ r' c', r' < 2 ^ n → c' < 2 ^ n → (bits n r').length = k → (bits n c').length = k → minP p E (bits n r') (bits n c') = [] := fun r' c' q1 q2 q3 q4 => by
    refine Classical.byContradiction fun hne => ?_
    obtain ⟨m1, m2, _⟩ := minP_ok hp hn hE (R := bits n r') (C := bits n c') (fun i hi => bits_mem hi) (fun i hi => bits_mem hi) (by omega)
    obtain ⟨q, hq, e⟩ := (h1 r' c' q1 q2 q3 q4).list hp m1
    obtain ⟨l1, _, l3⟩ := mulp_len_pos hp hq hg.po (e ▸ hne)
    have := List.length_pos_iff.2 l1
    rw [← e] at l3
    omega
  have h3 := hg.gr pzero ((all_bits hp hn hk hE).2 fun r' c' q1 q2 q3 q4 => by rw [h2 r' c' q1 q2 q3 q4, cf_nil_zero]; exact Dv.zero _)
  rw [← cf_nil_zero] at h3
  obtain ⟨q, hq, e⟩ := h3.list hp hg.po
  rcases mulp_len hp hq (Po_nil (p := p) (by omega)) with h | ⟨_, h, _⟩
  · exact e.trans h
  · exact absurd rfl h
theorem gk_down (hp : Pr p) {D : Nat → List Int} : ∀ k, (∀ i, i < k → Po p (D i) ∧ D i ≠ []) → (gk p D k).length = 1 → ∀ i, i ≤ k → gk p D i = [1]
  | 0, _, _, i, hi => by obtain rfl : i = 0 := by omega
                         rfl
  | k + 1, h, hl, i, hi => by
    obtain ⟨h1, h2, h3⟩ := gk_monic hp (k + 1) h
    by_cases e : i = k + 1
    · subst e; exact one_of_len hp h1 hl fun _ => h3
    · refine gk_down hp k (fun i hi => h i (by omega)) ?_ i (by omega)
      obtain ⟨g1, g2, _⟩ := gk_monic hp k fun i hi => h i (by omega)
      obtain ⟨m1, _, _⟩ := monic_ne hp (h k (by omega)).1 (h k (by omega)).2
      have e := mulp_length hp g1 (monic_Po hp (D k)) g2 m1
      have a1 := List.length_pos_iff.2 g2
      have a2 := List.length_pos_iff.2 m1
      have e2 : (mulp p (gk p D k) (monic p (D k))).length = 1 := hl
      omega
end
/-- A table that does not lie in block g. -/
def TabF (w : World) (g : Nat) (v : Value) (n : Nat) (E : MxL) : Prop := ∃ (b c : Nat) (R : Nat → Value), v = .slice (some ⟨b, 0, none⟩) n c ∧ b ≠ g ∧ (∀ i, i < n → w.cell? ⟨b, i, none⟩ = some (R i)) ∧ ∀ i, i < n → ∃ b' c', R i = .slice (some ⟨b', 0, none⟩) n c' ∧ b' ≠ g ∧ ∀ j, j < n → ∀ q, q < 64 → w.cell? ⟨b', j * 64 + q, none⟩ = some (.int .u8 (cf (E i j) q))
theorem TabF.tab {w : World} {g : Nat} {v : Value} {n : Nat} {E : MxL} (h : TabF w g v n E) : TabS w v n E := by
  obtain ⟨b, c, R, e, _, h1, h2⟩ := h
  exact ⟨b, c, R, e, h1, fun i hi => by obtain ⟨b', c', e', _, h3⟩ := h2 i hi; exact ⟨b', c', e', h3⟩⟩
theorem TabF.kept {w w' : World} {g : Nat} {v : Value} {n : Nat} {E : MxL} (h : TabF w g v n E) (hg : w.grownBy w' (some g)) : TabF w' g v n E := by
  obtain ⟨b, c, R, e, hb, h1, h2⟩ := h
  have key : ∀ (x y : Nat) (u : Value), x ≠ g → w.cell? ⟨x, y, none⟩ = some u → w'.cell? ⟨x, y, none⟩ = some u := fun x y u hx hu => by
    rw [World.cell?_of_block (a := ⟨x, y, none⟩) (hg.block x (block_lt_of_cell hu) (fun e => hx (Option.some.inj e)))]
    exact hu
  exact ⟨b, c, R, e, hb, fun i hi => key _ _ _ hb (h1 i hi), fun i hi => by
    obtain ⟨b', c', e', hb', h3⟩ := h2 i hi
    exact ⟨b', c', e', hb', fun j hj q hq => key _ _ _ hb' (h3 j hj q hq)⟩⟩
theorem TabF.below {w w' : World} {g : Nat} {v : Value} {n : Nat} {E : MxL} (h : TabF w g v n E) (hb : Below w.heap.size w w') : TabF w' g v n E := h.kept (belowK_grown hb _)
theorem entM_one {p : Int} (hp : Pr p) (Ms : Nat → List Int) (i : Nat) : cf (entM p Ms i i) 1 = 1 := by
  have hp2 := hp.pos
  unfold entM
  rw [if_pos rfl, addp_cf, addp_cf, cf_nil, cf_cons_succ, cf_cons_succ, cf_nil, cf_cons_zero]
  simp
  exact Int.emod_eq_of_lt (by omega) (by omega)
/-- The table and a new list of zeros lie apart. -/
theorem TabS.apart {w : World} {v : Value} {n B g m c : Nat} {T : TypeId} {p : Int} {Ms : Nat → List Int} (hp : Pr p) (h : TabS w v n (entM p Ms)) (hL : BsL T 64 w B (.slice (some ⟨g, 0, none⟩) m c) m (fun _ => [])) (hm : n < m) (hn : 0 < n) : TabF w g v n (entM p Ms) := by
  obtain ⟨b, c', R, e, h1, h2⟩ := h
  have hz := fun i (hi : i < m) => hL.cells (by decide) i hi
  refine ⟨b, c', R, e, ?_, h1, fun i hi => ?_⟩
  · rintro rfl
    obtain ⟨b', c2, e', _⟩ := h2 0 hn
    have q1 := h1 0 hn
    have q2 := hz 0 (by omega) 0 (by decide)
    rw [Nat.zero_mul, Nat.zero_add, q1, e'] at q2
    cases q2
  · obtain ⟨b', c2, e', h3⟩ := h2 i hi
    refine ⟨b', c2, e', ?_, h3⟩
    rintro rfl
    have q1 := h3 i hi 1 (by decide)
    have q2 := hz i (by omega) 1 (by decide)
    rw [q1, entM_one hp] at q2
    cases q2
set_option maxRecDepth 20000 in
set_option maxHeartbeats 8000000 in
theorem l05Factors_any (F : Nat → Int) (p : Int) (n : Nat) (Ms : Nat → List Int) (M : MxL) (w : World) (hp : Pr p) (hn0 : 0 < n) (hn : n ≤ 6) (hF : ∀ i j, i < n → j < n → 0 ≤ F (i * 6 + j) ∧ F (i * 6 + j) < p ∧ cf (Ms i) j = F (i * 6 + j)) (hSm : Sm p n (cfm (entM p Ms)) n M) :
    Calls Try.prog 28 #[.int .i64 p, .int .i64 n, .agg (u8s 36 F)] w fun e w' => ∃ v, e = .returned v ∧ BsL 25 64 w' w.heap.size v n (fun i => monic p (M i i)) ∧ Below w.heap.size w w' := by
  have hp2 := hp.pos
  have hpH := Lib.hid hp
  have hE := Lib.hid (fun i j (_ : i < n) (_ : j < n) => (⟨entM_Po hp Ms i j, entM_len Ms i j⟩ : Po p (entM p Ms i j) ∧ (entM p Ms i j).length ≤ 2))
  obtain ⟨D, hD⟩ : ∃ D : Nat → List Int, (fun i => M i i) = D := ⟨_, rfl⟩
  have hDp := Lib.hid (fun i (hi : i < n) => by rw [← hD]; exact ⟨hSm.po i i hi hi, hSm.piv i hi⟩ : ∀ i, i < n → Po p (D i) ∧ D i ≠ [])
  have hG := Lib.hid (fun k (hk : k ≤ n) => by have := hSm.isG hp hk; rw [hD] at this; exact this : ∀ k, k ≤ n → IsG p n k (cfm (entM p Ms)) (gk p D k))
  have hGl := Lib.hid (fun k (hk : k ≤ n) => (hG.out k hk).len hp hn (by omega) hE.out)
  have hres : (fun i => monic p (M i i)) = fun i => monic p (D i) := by rw [← hD]
  rw [hres]
  have htab := Lib.hid (fun w => l05Table_any F p n Ms w hp hn0 hn hF)
  have hA := Blk.new w (u8s 36 F) 30
  have hb0 := below_new w (.cells (u8s 36 F) 30)
  have hnI : (n : Int) ≤ 6 := by omega
  clear hF hp hSm hD hres
  go_enter Try.func28, Try.ntmps28
  go_upto_region 1 with fail
  refine gen_guard (w := _) (by kernel_rfl) (by kernel_rfl) (by kernel_rfl)
      (fun i => ([fun zv _ => zv = .int .i64 p, fun zv _ => zv = .int .i64 (n : Int), fun zv _ => zv = .agg (u8s 36 F), fun v w' => TabS w' v n (entM p Ms), fun zv _ => zv = .int .i64 (n : Int), fun zv _ => zv = .int .i64 ((n : Int) + 1), fun v w' => ∃ g, v = .slice (some ⟨g, 0, none⟩) (n + 1) (n + 1) ∧ w.heap.size + 1 ≤ g ∧ BsL 25 64 w' (w.heap.size + 1) v (n + 1) (fun _ => []), fun v w' => TabS w' v n (entM p Ms), fun v w' => ∃ g, v = .slice (some ⟨g, 0, none⟩) (n + 1) (n + 1) ∧ w.heap.size + 1 ≤ g ∧ BsL 25 64 w' (w.heap.size + 1) v (n + 1) (fun _ => [])] : List (Value → World → Prop)).getD i (fun _ _ => True))
      (fun w' => Blk w' (w.heap.size) (u8s 36 F) 30 ∧ True) ⟨hA.drew, trivial⟩ (fun w1 w2 h hb => ⟨h.1.keep hb, trivial⟩) ?_ ?_ ?_
  · intro i v w1 w2 h hb
    rcases i with _|_|_|_|_|_|_|_|_|i
    · exact h
    · exact h
    · exact h
    · exact TabS.below h hb
    · exact h
    · exact h
    · obtain ⟨g, e, h1, h2⟩ := h; exact ⟨g, e, h1, h2.below hb⟩
    · exact TabS.below h hb
    · obtain ⟨g, e, h1, h2⟩ := h; exact ⟨g, e, h1, h2.below hb⟩
    · exact h
  · intro i o ho a w2 hBl hSx hrd hpar
    rcases i with _|_|_|_|_|_|_|_|_|i
    · obtain rfl := Option.some.inj ho
      refine .inl ⟨rfl, ?_⟩
      have e0 : a.eval (.tmp 0) = .int .i64 p := hpar 0 _ (by kernel_rfl) (by kernel_rfl)
      exact wpv_of (wp_move _ _ rfl e0) (fun _ _ => rfl)
    · obtain rfl := Option.some.inj ho
      refine .inl ⟨rfl, ?_⟩
      have e1 : a.eval (.tmp 1) = .int .i64 (n : Int) := hpar 1 _ (by kernel_rfl) (by kernel_rfl)
      exact wpv_of (wp_move _ _ rfl e1) (fun _ _ => rfl)
    · obtain rfl := Option.some.inj ho
      refine .inl ⟨rfl, ?_⟩
      exact wpv_of (wp_loadB 30 _ rfl _ (hpar 5 (.pointer (some ⟨w.heap.size, 0, none⟩)) (by kernel_rfl) (by kernel_rfl)) _ _ hSx.1 _ _ uSquare sSquare) (fun _ _ => rfl)
    · obtain rfl := Option.some.inj ho
      refine .inl ⟨rfl, ?_⟩
      have e15 : a.eval (.tmp 15) = .int .i64 p := hrd 0 _ 15 rfl rfl (by kernel_rfl) (by kernel_rfl)
      have e16 : a.eval (.tmp 16) = .int .i64 (n : Int) := hrd 1 _ 16 rfl rfl (by kernel_rfl) (by kernel_rfl)
      have e17 : a.eval (.tmp 17) = .agg (u8s 36 F) := hrd 2 _ 17 rfl rfl (by kernel_rfl) (by kernel_rfl)
      exact wpv_call 52 [.tmp 15, .tmp 16, .tmp 17] _ rfl [.int .i64 p, .int .i64 (n : Int), .agg (u8s 36 F)] (by simp only [List.map_cons, List.map_nil, e15, e16, e17]) Try.call52 ((htab.out w2).mono fun _ _ ⟨v, h1, h2, h3⟩ => ⟨v, h1, h2, h3⟩)
    · obtain rfl := Option.some.inj ho
      refine .inl ⟨rfl, ?_⟩
      have e1 : a.eval (.tmp 1) = .int .i64 (n : Int) := hpar 1 _ (by kernel_rfl) (by kernel_rfl)
      exact wpv_of (wp_move _ _ rfl e1) (fun _ _ => rfl)
    · obtain rfl := Option.some.inj ho
      refine .inl ⟨rfl, ?_⟩
      have e19 : a.eval (.tmp 19) = .int .i64 (n : Int) := hrd 4 _ 19 rfl rfl (by kernel_rfl) (by kernel_rfl)
      exact wpv_of (wp_inc _ _ _ rfl n e19 (by omega)) (fun _ _ => rfl)
    · obtain rfl := Option.some.inj ho
      refine .inl ⟨rfl, ?_⟩
      have e20 : a.eval (.tmp 20) = .int .i64 ((n : Int) + 1) := hrd 5 _ 20 rfl rfl (by kernel_rfl) (by kernel_rfl)
      exact wpv_make_bs _ _ _ _ rfl uTlnT iPolyB _ _ (n + 1) (by rw [e20]; exact congrArg (Value.int .i64) (by omega)) (by rw [e20]; exact congrArg (Value.int .i64) (by omega)) (by omega) _ (by have := hBl.size; rw [size_alloc] at this; omega)
    · obtain rfl := Option.some.inj ho
      refine .inl ⟨rfl, ?_⟩
      have h18 : (fun v w' => TabS w' v n (entM p Ms)) (a.eval (.tmp 18)) w2 := hrd 3 _ 18 rfl rfl (by kernel_rfl) (by kernel_rfl)
      generalize e18 : a.eval (.tmp 18) = v18 at h18
      exact wpv_of (wp_assign _ _ rfl e18) (fun w' hb => by have h := h18; exact TabS.below h hb)
    · obtain rfl := Option.some.inj ho
      refine .inl ⟨rfl, ?_⟩
      have h21 : (fun v w' => ∃ g, v = .slice (some ⟨g, 0, none⟩) (n + 1) (n + 1) ∧ w.heap.size + 1 ≤ g ∧ BsL 25 64 w' (w.heap.size + 1) v (n + 1) (fun _ => [])) (a.eval (.tmp 21)) w2 := hrd 6 _ 21 rfl rfl (by kernel_rfl) (by kernel_rfl)
      generalize e21 : a.eval (.tmp 21) = v21 at h21
      exact wpv_of (wp_assign _ _ rfl e21) (fun w' hb => by have h := h21; obtain ⟨g, e, h1, h2⟩ := h; exact ⟨g, e, h1, h2.below hb⟩)
    · simp at ho
  intro vals xA hBx hSx hc0
  have e0 : vals 0 = .int .i64 p := hc0 0 (by simp)
  have e1 : vals 1 = .int .i64 (n : Int) := hc0 1 (by simp)
  have e2 : vals 2 = .agg (u8s 36 F) := hc0 2 (by simp)
  have cA3 : (fun v w' => TabS w' v n (entM p Ms)) (vals 3) xA := hc0 3 (by simp)
  generalize ev3 : vals 3 = uA3 at cA3
  have e4 : vals 4 = .int .i64 (n : Int) := hc0 4 (by simp)
  have e5 : vals 5 = .int .i64 ((n : Int) + 1) := hc0 5 (by simp)
  have cA6 : (fun v w' => ∃ g, v = .slice (some ⟨g, 0, none⟩) (n + 1) (n + 1) ∧ w.heap.size + 1 ≤ g ∧ BsL 25 64 w' (w.heap.size + 1) v (n + 1) (fun _ => [])) (vals 6) xA := hc0 6 (by simp)
  generalize ev6 : vals 6 = uA6 at cA6
  have cA7 : (fun v w' => TabS w' v n (entM p Ms)) (vals 7) xA := hc0 7 (by simp)
  generalize ev7 : vals 7 = uA7 at cA7
  have cA8 : (fun v w' => ∃ g, v = .slice (some ⟨g, 0, none⟩) (n + 1) (n + 1) ∧ w.heap.size + 1 ≤ g ∧ BsL 25 64 w' (w.heap.size + 1) v (n + 1) (fun _ => [])) (vals 8) xA := hc0 8 (by simp)
  generalize ev8 : vals 8 = uA8 at cA8
  simp only [List.length_cons, List.length_nil, Nat.zero_add, Nat.reduceAdd, List.replicate, putAll, if_true, Act.put, List.setIfInBounds_toArray, List.set_cons_zero, List.set_cons_succ, e0, e1, e2, ev3, e4, e5, ev6, ev7, ev8]
  replace hA := hSx.1
  replace hb0 := below_step hb0 hBx
  clear hc0 hSx e0 e1 e2 ev3 e4 e5 ev6 ev7 ev8
  obtain ⟨gD, rfl, hgD, hL⟩ := cA8
  have hTF := Lib.hid (cA7.apart hpH.out hL (by omega) hn0)
  clear cA3 cA6 cA7 htab hA
  rename World => w1
  go_wp2_with fail
  go_loopw [9] (fun vk wr => ∃ k : Nat, k ≤ n + 1 ∧ vk = .int .i64 (k : Int) ∧ BsL 25 64 wr (w.heap.size + 1) (.slice (some ⟨gD, 0, none⟩) (n + 1) (n + 1)) (n + 1) (fun q => if q < k then [1] else []) ∧ Hid (TabF wr gD uA7 n (entM p Ms)) ∧ Below w.heap.size w wr) (fun vk _ => n + 1 - (intOf vk).toNat)
  case atStart => exact ⟨0, by omega, rfl, hL.ext (by decide) fun i _ => (if_neg (by omega)).symm, hTF, hb0⟩
  case round =>
    clear hL hTF hb0
    obtain ⟨k, hk, rfl, hL, hTF, hb⟩ := hrel
    by_cases hkn : k ≤ n
    · have hkI : (k : Int) ≤ (n : Int) := by omega
      go_wp2_with fail
      refine (l01One_any _).mono ?_
      rintro e w2 ⟨rfl, hn2⟩
      replace hL := hL.below hn2
      replace hTF := Lib.hid (hTF.out.below hn2)
      replace hb := below_step hb hn2
      clear hn2
      have hLS := Lib.hid hL
      have hbs := Lib.hid hb.size
      have hbb := Lib.hid hb
      clear hL hb
      go_wp2_with ((with_reducible refine wpl_guard ?_); first | (refine wpl_index_bs rfl 38 25 64 _ _ rfl uTlnT sPoly (by decide) gD (n + 1) (n + 1) k .i64 rfl rfl (by omega) ?_) | (refine wpl_store_b64 rfl 25 _ _ rfl gD k rfl [1] rfl (w.heap.size + 1) (n + 1) (n + 1) _ 25 hLS.out (by omega) sPoly ?_; intro w3 hL3 hg3))
      have hL4 := hL3.ext (M' := fun q => if q < k + 1 then [1] else []) (by decide) fun i _ => by
        show (if i = k then [1] else if i < k then [1] else []) = if i < k + 1 then [1] else []
        by_cases e : i = k
        · rw [if_pos e, if_pos (by omega)]
        · by_cases e2 : i < k
          · rw [if_neg e, if_pos e2, if_pos (by omega)]
          · rw [if_neg e, if_neg e2, if_neg (by omega)]
      have hT4 := Lib.hid (hTF.out.kept hg3)
      have hb4 := hbb.out.trans (grownK_below hg3 (fun q e => by cases e; omega) hbs.out)
      clear hL3 hLS hbs hbb hg3 hTF
      go_wp2_with fail
      go_roundw
      case rel => exact ⟨k + 1, by omega, by go_num, hL4, hT4, hb4⟩
      case measure => simp [intOf] <;> omega
    · have ekn : k = n + 1 := by omega
      subst ekn
      have hkI : ¬ (((n + 1 : Nat) : Int) ≤ (n : Int)) := by omega
      replace hL := hL.ext (M' := fun q => if q ≤ n then [1] else gk p D q) (by decide) fun i hi => by
        show (if i < n + 1 then [1] else []) = if i ≤ n then [1] else gk p D i
        rw [if_pos hi, if_pos (by omega)]
      go_wp2_with fail
      go_loopw [10] (fun vk wr => ∃ k : Nat, k ≤ n ∧ vk = .int .i64 (k : Int) ∧ BsL 25 64 wr (w.heap.size + 1) (.slice (some ⟨gD, 0, none⟩) (n + 1) (n + 1)) (n + 1) (fun q => if q ≤ k then [1] else gk p D q) ∧ Hid (TabF wr gD uA7 n (entM p Ms)) ∧ Below w.heap.size w wr) (fun vk _ => (intOf vk).toNat)
      case atStart => exact ⟨n, by omega, rfl, hL, hTF, hb⟩
      case round =>
        clear hL hTF hb
        obtain ⟨k, hk, rfl, hL, hTF, hb⟩ := hrel
        by_cases hk0 : 0 < k
        · have hkI : (0 : Int) < (k : Int) := by omega
          go_wp2_with fail
          refine (l05Divisor_any (entM p Ms) p n k (gk p D k) hpH.out hn hk hE.out _ _ hTF.out.tab (hG.out k hk)).mono ?_
          rintro e w2 ⟨rfl, hn2⟩
          replace hL := hL.below hn2
          replace hTF := Lib.hid (hTF.out.below hn2)
          replace hb := below_step hb hn2
          clear hn2
          have hLS := Lib.hid hL
          have hbs := Lib.hid hb.size
          have hbb := Lib.hid hb
          clear hL hb
          go_upto_region 10 with ((with_reducible refine wpl_guard ?_); first | (refine wpl_index_bs rfl 38 25 64 _ _ rfl uTlnT sPoly (by decide) gD (n + 1) (n + 1) k .i64 rfl rfl (by omega) ?_) | (refine wpl_store_b64 rfl 25 _ _ rfl gD k rfl (gk p D k) rfl (w.heap.size + 1) (n + 1) (n + 1) _ 25 hLS.out (by omega) sPoly ?_; intro w3 hL3 hg3))
          have hL4 := hL3.ext (M' := fun q => if q < k then [1] else gk p D q) (by decide) fun i _ => by
            show (if i = k then gk p D k else if i ≤ k then [1] else gk p D i) = if i < k then [1] else gk p D i
            by_cases e : i = k
            · rw [if_pos e, if_neg (by omega), e]
            · by_cases e2 : i < k
              · rw [if_neg e, if_pos (by omega), if_pos e2]
              · rw [if_neg e, if_neg (by omega), if_neg e2]
          have hT4 := Lib.hid (hTF.out.kept hg3)
          have hb4 := hbb.out.trans (grownK_below hg3 (fun q e => by cases e; omega) hbs.out)
          clear hL3 hLS hbs hbb hg3 hTF
          have hcl := Lib.hid (fun q (hq : q < 64) => by
            have := hL4.cells (by decide) k (by omega) q hq
            rwa [if_neg (Nat.lt_irrefl k)] at this)
          have hdeg := Lib.hid (fun w => l01Deg_list p (gk p D k) w ⟨hpH.out, (hG.out k hk).po, by have := hGl.out k hk; omega⟩)
          obtain ⟨L, hLe⟩ : ∃ L, (gk p D k).length = L := ⟨_, rfl⟩
          rw [hLe] at hdeg
          have hLeH := Lib.hid hLe
          clear hLe
          go_wp2_with ((with_reducible refine wpl_guard ?_); first | (refine wpl_index_bs rfl 38 25 64 _ _ rfl uTlnT sPoly (by decide) gD (n + 1) (n + 1) k .i64 rfl rfl (by omega) ?_) | (refine wpl_load_bs rfl 25 _ rfl 64 gD (k * 64) rfl (cf (gk p D k)) hcl.out 5 uPoly sPoly ?_))
          refine (hdeg.out _).mono ?_
          rintro e w4 ⟨rfl, hn4⟩
          replace hL4 := hL4.below hn4
          replace hT4 := Lib.hid (hT4.out.below hn4)
          replace hb4 := below_step hb4 hn4
          clear hn4 hcl hdeg
          by_cases hL1 : L = 1
          · have hz : (((L : Int) - 1) == 0) = true := by rw [hL1]; rfl
            have hL := hL4.ext (M' := gk p D) (by decide) fun i hi => by
              show (if i < k then [1] else gk p D i) = gk p D i
              by_cases e : i < k
              · rw [if_pos e, gk_down hpH.out k (fun i hi => hDp.out i (by omega)) (hLeH.out.trans hL1) i (by omega)]
              · rw [if_neg e]
            have hTF := hT4
            have hb := hb4
            clear hL4 hT4 hb4 hL1 hLeH
            go_upto_region 11 with (fail)
            rename World => wx
            have hDc := Lib.hid hL
            have hbL := Lib.hid hb
            have hL0 := BsL.void wx 25 64 (fun i => monic p (D i))
            have hn9 := below_new wx (.cells #[] 25)
            have hgDl := (hL.lt gD rfl).2
            have hbs := hb.size
            clear hTF hL hb
            go_upto_region 12 with ((with_reducible refine wpl_guard ?_); first | (refine wpl_buildSlice_voidB rfl 38 25 64 rfl uTlnT sPoly zPolyS ?_))
            replace hDc := Lib.hid (hDc.out.below hn9)
            have hb9 := Lib.hid (below_step hbL.out hn9)
            have hsz9 := hn9.size
            clear hn9 hbL
            go_wp2_with fail
            go_loopw [11, 12] (fun vo vk wr => ∃ k : Nat, k ≤ n ∧ vk = .int .i64 ((k : Int) + 1) ∧ BsL 25 64 wr wx.heap.size vo k (fun i => monic p (D i)) ∧ Hid (BsL 25 64 wr (w.heap.size + 1) (.slice (some ⟨gD, 0, none⟩) (n + 1) (n + 1)) (n + 1) (gk p D)) ∧ wx.heap.size ≤ wr.heap.size ∧ Hid (Below w.heap.size w wr)) (fun _ vk _ => n + 1 - (intOf vk).toNat)
            case atStart => exact ⟨0, by omega, rfl, hL0, hDc, hsz9, hb9⟩
            case round =>
              clear hL0 hDc hsz9 hb9
              obtain ⟨k, hk, rfl, hO, hDc, hsq, hb⟩ := hrel
              rename World => wq
              by_cases hkn : k < n
              · have hkI : ((k : Int) + 1 ≤ (n : Int)) := by omega
                have hq := Lib.hid (gk_quot hpH.out (k := k) fun i hi => hDp.out i (by omega))
                have hdv := Lib.hid (fun w => l01Divide_any (gk p D (k + 1)) (gk p D k) p w ⟨hpH.out, (hG.out (k + 1) hkn).po, by have := hGl.out (k + 1) hkn; omega⟩ ⟨hpH.out, (hG.out k hk).po, by have := hGl.out k hk; omega⟩ (hG.out k hk).ne)
                rw [hq.out] at hdv
                obtain ⟨QT, hQT⟩ : ∃ x, monic p (D k) = x := ⟨_, rfl⟩
                obtain ⟨RT, hRT⟩ : ∃ x, (divp p (gk p D (k + 1)) (gk p D k)).2 = x := ⟨_, rfl⟩
                rw [hQT, hRT] at hdv
                have hQTH := Lib.hid hQT
                clear hq hQT hRT
                go_upto_region 15 with (fail)
                refine law_region2 (by kernel_rfl) (by kernel_rfl) (by kernel_rfl) (by kernel_rfl)
                    (fun i => ([some (.int .i64 p), some (.slice (some ⟨gD, 0, none⟩) (n + 1) (n + 1)), some (.int .i64 ((k : Int) + 1)), some (.pointer (some ⟨gD, (k + 1) * 64, none⟩)), some (.agg (u8s 64 (cf (gk p D (k + 1))))), some (.slice (some ⟨gD, 0, none⟩) (n + 1) (n + 1)), some (.int .i64 ((k : Int) + 1)), some (.int .i64 (k : Int)), some (.pointer (some ⟨gD, k * 64, none⟩)), some (.agg (u8s 64 (cf (gk p D k)))), some (.tuple #[.agg (u8s 64 (cf QT)), .agg (u8s 64 (cf RT))]), some (.tuple #[.agg (u8s 64 (cf QT)), .agg (u8s 64 (cf RT))]), some (.agg (u8s 64 (cf QT))), some (.agg (u8s 64 (cf RT))), none, none, none, none] : List (Option Value)).getD i none) 2 (fun zk => [14, 15].getD zk 0) (fun zk => [16, 17].getD zk 0) (fun zk => [12, 13].getD zk 0) (fun zk => [13, 14].getD zk 0) (fun zk => [67, 68].getD zk 0) (fun zk => [64, 64].getD zk 0) (fun zk => [(cf QT), (cf RT)].getD zk (fun _ => 0)) (fun zk => [25, 25].getD zk 0) ?_ ?_ ?_ ?_ ?_ ?_
                · intro i hi
                  rcases i with _|_|_|_|_|_|_|_|_|_|_|_|_|_|_|_|_|_|i
                  · exact .inl ⟨_, rfl⟩
                  · exact .inl ⟨_, rfl⟩
                  · exact .inl ⟨_, rfl⟩
                  · exact .inl ⟨_, rfl⟩
                  · exact .inl ⟨_, rfl⟩
                  · exact .inl ⟨_, rfl⟩
                  · exact .inl ⟨_, rfl⟩
                  · exact .inl ⟨_, rfl⟩
                  · exact .inl ⟨_, rfl⟩
                  · exact .inl ⟨_, rfl⟩
                  · exact .inl ⟨_, rfl⟩
                  · exact .inl ⟨_, rfl⟩
                  · exact .inl ⟨_, rfl⟩
                  · exact .inl ⟨_, rfl⟩
                  · exact .inr (.inl ⟨0, by decide, rfl⟩)
                  · exact .inr (.inl ⟨1, by decide, rfl⟩)
                  · exact .inr (.inr ⟨0, by decide, rfl⟩)
                  · exact .inr (.inr ⟨1, by decide, rfl⟩)
                  · simp only [List.length_cons, List.length_nil] at hi; omega
                · intro k hk
                  rcases k with _|_|k
                  · exact ⟨rfl, rfl, rfl, zPoly⟩
                  · exact ⟨rfl, rfl, rfl, zPoly⟩
                  · omega
                · intro k hk k' hk'
                  rcases k with _|_|k
                  all_goals rcases k' with _|_|k'
                  all_goals first | omega | exact ⟨by decide, by decide, by decide⟩
                · intro k hk
                  rcases k with _|_|k
                  · kernel_rfl
                  · kernel_rfl
                  · omega
                · intro i o c ho hc a w9 hBw hrd hpar
                  rcases i with _|_|_|_|_|_|_|_|_|_|_|_|_|_|_|_|_|_|i
                  · obtain rfl := Option.some.inj ho
                    obtain rfl := Option.some.inj hc
                    exact wp_move _ (.int .i64 p) rfl (hpar 0 _ (by kernel_rfl) (by kernel_rfl))
                  · obtain rfl := Option.some.inj ho
                    obtain rfl := Option.some.inj hc
                    exact wp_move _ (.slice (some ⟨gD, 0, none⟩) (n + 1) (n + 1)) rfl (hpar 8 _ (by kernel_rfl) (by kernel_rfl))
                  · obtain rfl := Option.some.inj ho
                    obtain rfl := Option.some.inj hc
                    exact wp_move _ (.int .i64 ((k : Int) + 1)) rfl (hpar 12 _ (by kernel_rfl) (by kernel_rfl))
                  · obtain rfl := Option.some.inj ho
                    obtain rfl := Option.some.inj hc
                    exact wp_index_bs 38 25 64 _ _ rfl uTlnT sPoly (by decide) gD (n + 1) (n + 1) (k + 1) .i64 (hrd 1 _ _ 57 rfl rfl rfl (by kernel_rfl) (by kernel_rfl)) (((hrd 2 _ _ 58 rfl rfl rfl (by kernel_rfl) (by kernel_rfl))).trans (congrArg (Value.int .i64) (by omega))) (by omega)
                  · obtain rfl := Option.some.inj ho
                    obtain rfl := Option.some.inj hc
                    exact wp_load_bs 25 _ rfl 64 gD ((k + 1) * 64) (hrd 3 _ _ 59 rfl rfl rfl (by kernel_rfl) (by kernel_rfl)) (cf (gk p D (k + 1))) (fun q hq => (hDc.out.below hBw).cells (by decide) (k + 1) (by omega) q hq) 5 uPoly sPoly
                  · obtain rfl := Option.some.inj ho
                    obtain rfl := Option.some.inj hc
                    exact wp_move _ (.slice (some ⟨gD, 0, none⟩) (n + 1) (n + 1)) rfl (hpar 8 _ (by kernel_rfl) (by kernel_rfl))
                  · obtain rfl := Option.some.inj ho
                    obtain rfl := Option.some.inj hc
                    exact wp_move _ (.int .i64 ((k : Int) + 1)) rfl (hpar 12 _ (by kernel_rfl) (by kernel_rfl))
                  · obtain rfl := Option.some.inj ho
                    obtain rfl := Option.some.inj hc
                    exact wp_dec _ _ _ rfl k (((hrd 6 _ _ 62 rfl rfl rfl (by kernel_rfl) (by kernel_rfl))).trans (congrArg (Value.int .i64) (by omega))) (by omega)
                  · obtain rfl := Option.some.inj ho
                    obtain rfl := Option.some.inj hc
                    exact wp_index_bs 38 25 64 _ _ rfl uTlnT sPoly (by decide) gD (n + 1) (n + 1) (k) .i64 (hrd 5 _ _ 61 rfl rfl rfl (by kernel_rfl) (by kernel_rfl)) (((hrd 7 _ _ 63 rfl rfl rfl (by kernel_rfl) (by kernel_rfl))).trans (congrArg (Value.int .i64) (by omega))) (by omega)
                  · obtain rfl := Option.some.inj ho
                    obtain rfl := Option.some.inj hc
                    exact wp_load_bs 25 _ rfl 64 gD (k * 64) (hrd 8 _ _ 64 rfl rfl rfl (by kernel_rfl) (by kernel_rfl)) (cf (gk p D k)) (fun q hq => (hDc.out.below hBw).cells (by decide) (k) (by omega) q hq) 5 uPoly sPoly
                  · obtain rfl := Option.some.inj ho
                    obtain rfl := Option.some.inj hc
                    exact wp_callB 55 [.tmp 56, .tmp 60, .tmp 65] _ rfl [.int .i64 p, .agg (u8s 64 (cf (gk p D (k + 1)))), .agg (u8s 64 (cf (gk p D k)))] (by simp only [List.map_cons, List.map_nil, (hrd 0 _ _ 56 rfl rfl rfl (by kernel_rfl) (by kernel_rfl)), (hrd 4 _ _ 60 rfl rfl rfl (by kernel_rfl) (by kernel_rfl)), (hrd 9 _ _ 65 rfl rfl rfl (by kernel_rfl) (by kernel_rfl))]) Try.call55 _ (hdv.out w9)
                  · obtain rfl := Option.some.inj ho
                    obtain rfl := Option.some.inj hc
                    exact wp_move _ (.tuple #[.agg (u8s 64 (cf QT)), .agg (u8s 64 (cf RT))]) rfl (hrd 10 _ _ 66 rfl rfl rfl (by kernel_rfl) (by kernel_rfl))
                  · obtain rfl := Option.some.inj ho
                    obtain rfl := Option.some.inj hc
                    exact wp_extract _ 0 #[.agg (u8s 64 (cf QT)), .agg (u8s 64 (cf RT))] _ rfl (hrd 11 _ _ 55 rfl rfl rfl (by kernel_rfl) (by kernel_rfl)) rfl
                  · obtain rfl := Option.some.inj ho
                    obtain rfl := Option.some.inj hc
                    exact wp_extract _ 1 #[.agg (u8s 64 (cf QT)), .agg (u8s 64 (cf RT))] _ rfl (hrd 11 _ _ 55 rfl rfl rfl (by kernel_rfl) (by kernel_rfl)) rfl
                  · cases hc
                  · cases hc
                  · cases hc
                  · cases hc
                  · cases hc
                intro vals xK hBw hc hr
                have e0 : vals 0 = .int .i64 p := hc 0 _ (by simp) rfl
                have e1 : vals 1 = .slice (some ⟨gD, 0, none⟩) (n + 1) (n + 1) := hc 1 _ (by simp) rfl
                have e2 : vals 2 = .int .i64 ((k : Int) + 1) := hc 2 _ (by simp) rfl
                have e3 : vals 3 = .pointer (some ⟨gD, (k + 1) * 64, none⟩) := hc 3 _ (by simp) rfl
                have e4 : vals 4 = .agg (u8s 64 (cf (gk p D (k + 1)))) := hc 4 _ (by simp) rfl
                have e5 : vals 5 = .slice (some ⟨gD, 0, none⟩) (n + 1) (n + 1) := hc 5 _ (by simp) rfl
                have e6 : vals 6 = .int .i64 ((k : Int) + 1) := hc 6 _ (by simp) rfl
                have e7 : vals 7 = .int .i64 (k : Int) := hc 7 _ (by simp) rfl
                have e8 : vals 8 = .pointer (some ⟨gD, k * 64, none⟩) := hc 8 _ (by simp) rfl
                have e9 : vals 9 = .agg (u8s 64 (cf (gk p D k))) := hc 9 _ (by simp) rfl
                have e10 : vals 10 = .tuple #[.agg (u8s 64 (cf QT)), .agg (u8s 64 (cf RT))] := hc 10 _ (by simp) rfl
                have e11 : vals 11 = .tuple #[.agg (u8s 64 (cf QT)), .agg (u8s 64 (cf RT))] := hc 11 _ (by simp) rfl
                have e12 : vals 12 = .agg (u8s 64 (cf QT)) := hc 12 _ (by simp) rfl
                have e13 : vals 13 = .agg (u8s 64 (cf RT)) := hc 13 _ (by simp) rfl
                obtain ⟨gK0, p0, hgK0, hK0⟩ : ∃ g, vals 14 = .pointer (some ⟨g, 0, none⟩) ∧ _ ≤ g ∧ Blk xK g (u8s 64 (cf QT)) 25 := hr 0 (by decide)
                obtain ⟨gK1, p1, hgK1, hK1⟩ : ∃ g, vals 15 = .pointer (some ⟨g, 0, none⟩) ∧ _ ≤ g ∧ Blk xK g (u8s 64 (cf RT)) 25 := hr 1 (by decide)
                simp only [List.length_cons, List.length_nil, Nat.zero_add, Nat.reduceAdd, List.replicate, putAll, if_true, Act.put, List.setIfInBounds_toArray, List.set_cons_zero, List.set_cons_succ, e0, e1, e2, e3, e4, e5, e6, e7, e8, e9, e10, e11, e12, e13, p0, p1]
                clear hc hr e0 e1 e2 e3 e4 e5 e6 e7 e8 e9 e10 e11 e12 e13 p0 p1
                have hO2 := Lib.hid (hO.below hBw)
                have hD2 := Lib.hid (hDc.out.below hBw)
                have hb2 := Lib.hid (below_step hb.out hBw)
                have hsz := Nat.le_trans hsq hBw.size
                clear hO hDc hb hBw hdv
                have hn := below_new xK (.cells (u8s 64 (cf QT)) 25)
                have hB3 := Lib.hid (hO2.out.below hn)
                have hD3 := Lib.hid (hD2.out.below hn)
                have hb3 := Lib.hid (below_step hb2.out hn)
                have nw := Lib.hid (arr_news xK 64 25 QT)
                have hbs := Lib.hid (Nat.le_trans hsz hn.size)
                clear hn hO2 hD2 hb2 hsz hsq
                go_wp2_with ((with_reducible refine wpl_guard ?_); first | (refine wpl_load_arr rfl 25 _ rfl _ rfl _ _ hK0 _ _ uPoly sPoly ?_) | (refine wpl_buildSlice_arr rfl 38 25 64 _ rfl uTlnT sPoly zPoly (by decide) (by decide) (cf QT) rfl ?_) | (at_builtin; refine wpl_append_farB rfl _ _ 38 rfl (wx.heap.size) 25 _ 64 64 uTlnT iPolyB (by simp [Value.cells, u8s_size]) (by decide) (by decide) _ k _ rfl hB3.out ⟨xK.heap.size, 0, none⟩ rfl (u8s 64 (cf QT)).toList (by rw [Array.length_toList, u8s_size]) (fun j u h => by rw [addr_add]; exact nw.out j u h) (arr_ones 64 QT) (by omega) hbs.out ?_))
                intro v5 w5 hown5 hg5 _
                have hB5 := BsL.snoc (M := fun i => monic p (D i)) (by decide) hQTH.out hown5
                have hD5 := Lib.hid (hD3.out.kept hg5 (.inr fun e => by have := (hB3.out.lt gD e.symm).1; omega))
                have hb5 := Lib.hid (bsl_low hb3.out hB3.out (by omega) (Nat.le_trans (by omega) hbs.out) hg5)
                have hs5 := Lib.hid (Nat.le_trans hbs.out hg5.size)
                clear hown5 hg5 hB3 hD3 hb3 nw hbs
                go_wp2_with fail
                go_roundw
                case rel => exact ⟨k + 1, by omega, by go_num, hB5, hD5, hs5.out, hb5⟩
                case measure => simp [intOf] <;> omega
              · have ekn : n = k := by omega
                subst ekn
                have hO2 := Lib.hid (hO.mono (by omega : w.heap.size ≤ wx.heap.size))
                have hkI : ¬ ((n : Int) + 1 ≤ (n : Int)) := by omega
                clear hO hDc
                go_wp2_with fail
                go_ret
                exact ⟨_, rfl, hO2.out, hb.out⟩
          · have hz : (((L : Int) - 1) == 0) = false := by rw [beq_eq_false_iff_ne]; omega
            have hL5 := hL4.ext (M' := fun q => if q ≤ k - 1 then [1] else gk p D q) (by decide) fun i _ => by
              show (if i < k then [1] else gk p D i) = if i ≤ k - 1 then [1] else gk p D i
              by_cases e : i < k
              · rw [if_pos e, if_pos (by omega)]
              · rw [if_neg e, if_neg (by omega)]
            clear hL4 hLeH
            go_wp2_with fail
            go_roundw
            case rel => exact ⟨k - 1, by omega, by go_num, hL5, hT4, hb4⟩
            case measure => simp [intOf] <;> omega
        · obtain rfl : k = 0 := by omega
          replace hL := hL.ext (M' := gk p D) (by decide) fun i hi => by
            show (if i ≤ 0 then [1] else gk p D i) = gk p D i
            by_cases e : i ≤ 0
            · obtain rfl : i = 0 := by omega
              rfl
            · rw [if_neg e]
          go_upto_region 11 with (fail)
          rename World => wx
          have hDc := Lib.hid hL
          have hbL := Lib.hid hb
          have hL0 := BsL.void wx 25 64 (fun i => monic p (D i))
          have hn9 := below_new wx (.cells #[] 25)
          have hgDl := (hL.lt gD rfl).2
          have hbs := hb.size
          clear hTF hL hb
          go_upto_region 12 with ((with_reducible refine wpl_guard ?_); first | (refine wpl_buildSlice_voidB rfl 38 25 64 rfl uTlnT sPoly zPolyS ?_))
          replace hDc := Lib.hid (hDc.out.below hn9)
          have hb9 := Lib.hid (below_step hbL.out hn9)
          have hsz9 := hn9.size
          clear hn9 hbL
          go_wp2_with fail
          go_loopw [11, 12] (fun vo vk wr => ∃ k : Nat, k ≤ n ∧ vk = .int .i64 ((k : Int) + 1) ∧ BsL 25 64 wr wx.heap.size vo k (fun i => monic p (D i)) ∧ Hid (BsL 25 64 wr (w.heap.size + 1) (.slice (some ⟨gD, 0, none⟩) (n + 1) (n + 1)) (n + 1) (gk p D)) ∧ wx.heap.size ≤ wr.heap.size ∧ Hid (Below w.heap.size w wr)) (fun _ vk _ => n + 1 - (intOf vk).toNat)
          case atStart => exact ⟨0, by omega, rfl, hL0, hDc, hsz9, hb9⟩
          case round =>
            clear hL0 hDc hsz9 hb9
            obtain ⟨k, hk, rfl, hO, hDc, hsq, hb⟩ := hrel
            rename World => wq
            by_cases hkn : k < n
            · have hkI : ((k : Int) + 1 ≤ (n : Int)) := by omega
              have hq := Lib.hid (gk_quot hpH.out (k := k) fun i hi => hDp.out i (by omega))
              have hdv := Lib.hid (fun w => l01Divide_any (gk p D (k + 1)) (gk p D k) p w ⟨hpH.out, (hG.out (k + 1) hkn).po, by have := hGl.out (k + 1) hkn; omega⟩ ⟨hpH.out, (hG.out k hk).po, by have := hGl.out k hk; omega⟩ (hG.out k hk).ne)
              rw [hq.out] at hdv
              obtain ⟨QT, hQT⟩ : ∃ x, monic p (D k) = x := ⟨_, rfl⟩
              obtain ⟨RT, hRT⟩ : ∃ x, (divp p (gk p D (k + 1)) (gk p D k)).2 = x := ⟨_, rfl⟩
              rw [hQT, hRT] at hdv
              have hQTH := Lib.hid hQT
              clear hq hQT hRT
              go_upto_region 15 with (fail)
              refine law_region2 (by kernel_rfl) (by kernel_rfl) (by kernel_rfl) (by kernel_rfl)
                  (fun i => ([some (.int .i64 p), some (.slice (some ⟨gD, 0, none⟩) (n + 1) (n + 1)), some (.int .i64 ((k : Int) + 1)), some (.pointer (some ⟨gD, (k + 1) * 64, none⟩)), some (.agg (u8s 64 (cf (gk p D (k + 1))))), some (.slice (some ⟨gD, 0, none⟩) (n + 1) (n + 1)), some (.int .i64 ((k : Int) + 1)), some (.int .i64 (k : Int)), some (.pointer (some ⟨gD, k * 64, none⟩)), some (.agg (u8s 64 (cf (gk p D k)))), some (.tuple #[.agg (u8s 64 (cf QT)), .agg (u8s 64 (cf RT))]), some (.tuple #[.agg (u8s 64 (cf QT)), .agg (u8s 64 (cf RT))]), some (.agg (u8s 64 (cf QT))), some (.agg (u8s 64 (cf RT))), none, none, none, none] : List (Option Value)).getD i none) 2 (fun zk => [14, 15].getD zk 0) (fun zk => [16, 17].getD zk 0) (fun zk => [12, 13].getD zk 0) (fun zk => [13, 14].getD zk 0) (fun zk => [67, 68].getD zk 0) (fun zk => [64, 64].getD zk 0) (fun zk => [(cf QT), (cf RT)].getD zk (fun _ => 0)) (fun zk => [25, 25].getD zk 0) ?_ ?_ ?_ ?_ ?_ ?_
              · intro i hi
                rcases i with _|_|_|_|_|_|_|_|_|_|_|_|_|_|_|_|_|_|i
                · exact .inl ⟨_, rfl⟩
                · exact .inl ⟨_, rfl⟩
                · exact .inl ⟨_, rfl⟩
                · exact .inl ⟨_, rfl⟩
                · exact .inl ⟨_, rfl⟩
                · exact .inl ⟨_, rfl⟩
                · exact .inl ⟨_, rfl⟩
                · exact .inl ⟨_, rfl⟩
                · exact .inl ⟨_, rfl⟩
                · exact .inl ⟨_, rfl⟩
                · exact .inl ⟨_, rfl⟩
                · exact .inl ⟨_, rfl⟩
                · exact .inl ⟨_, rfl⟩
                · exact .inl ⟨_, rfl⟩
                · exact .inr (.inl ⟨0, by decide, rfl⟩)
                · exact .inr (.inl ⟨1, by decide, rfl⟩)
                · exact .inr (.inr ⟨0, by decide, rfl⟩)
                · exact .inr (.inr ⟨1, by decide, rfl⟩)
                · simp only [List.length_cons, List.length_nil] at hi; omega
              · intro k hk
                rcases k with _|_|k
                · exact ⟨rfl, rfl, rfl, zPoly⟩
                · exact ⟨rfl, rfl, rfl, zPoly⟩
                · omega
              · intro k hk k' hk'
                rcases k with _|_|k
                all_goals rcases k' with _|_|k'
                all_goals first | omega | exact ⟨by decide, by decide, by decide⟩
              · intro k hk
                rcases k with _|_|k
                · kernel_rfl
                · kernel_rfl
                · omega
              · intro i o c ho hc a w9 hBw hrd hpar
                rcases i with _|_|_|_|_|_|_|_|_|_|_|_|_|_|_|_|_|_|i
                · obtain rfl := Option.some.inj ho
                  obtain rfl := Option.some.inj hc
                  exact wp_move _ (.int .i64 p) rfl (hpar 0 _ (by kernel_rfl) (by kernel_rfl))
                · obtain rfl := Option.some.inj ho
                  obtain rfl := Option.some.inj hc
                  exact wp_move _ (.slice (some ⟨gD, 0, none⟩) (n + 1) (n + 1)) rfl (hpar 8 _ (by kernel_rfl) (by kernel_rfl))
                · obtain rfl := Option.some.inj ho
                  obtain rfl := Option.some.inj hc
                  exact wp_move _ (.int .i64 ((k : Int) + 1)) rfl (hpar 12 _ (by kernel_rfl) (by kernel_rfl))
                · obtain rfl := Option.some.inj ho
                  obtain rfl := Option.some.inj hc
                  exact wp_index_bs 38 25 64 _ _ rfl uTlnT sPoly (by decide) gD (n + 1) (n + 1) (k + 1) .i64 (hrd 1 _ _ 57 rfl rfl rfl (by kernel_rfl) (by kernel_rfl)) (((hrd 2 _ _ 58 rfl rfl rfl (by kernel_rfl) (by kernel_rfl))).trans (congrArg (Value.int .i64) (by omega))) (by omega)
                · obtain rfl := Option.some.inj ho
                  obtain rfl := Option.some.inj hc
                  exact wp_load_bs 25 _ rfl 64 gD ((k + 1) * 64) (hrd 3 _ _ 59 rfl rfl rfl (by kernel_rfl) (by kernel_rfl)) (cf (gk p D (k + 1))) (fun q hq => (hDc.out.below hBw).cells (by decide) (k + 1) (by omega) q hq) 5 uPoly sPoly
                · obtain rfl := Option.some.inj ho
                  obtain rfl := Option.some.inj hc
                  exact wp_move _ (.slice (some ⟨gD, 0, none⟩) (n + 1) (n + 1)) rfl (hpar 8 _ (by kernel_rfl) (by kernel_rfl))
                · obtain rfl := Option.some.inj ho
                  obtain rfl := Option.some.inj hc
                  exact wp_move _ (.int .i64 ((k : Int) + 1)) rfl (hpar 12 _ (by kernel_rfl) (by kernel_rfl))
                · obtain rfl := Option.some.inj ho
                  obtain rfl := Option.some.inj hc
                  exact wp_dec _ _ _ rfl k (((hrd 6 _ _ 62 rfl rfl rfl (by kernel_rfl) (by kernel_rfl))).trans (congrArg (Value.int .i64) (by omega))) (by omega)
                · obtain rfl := Option.some.inj ho
                  obtain rfl := Option.some.inj hc
                  exact wp_index_bs 38 25 64 _ _ rfl uTlnT sPoly (by decide) gD (n + 1) (n + 1) (k) .i64 (hrd 5 _ _ 61 rfl rfl rfl (by kernel_rfl) (by kernel_rfl)) (((hrd 7 _ _ 63 rfl rfl rfl (by kernel_rfl) (by kernel_rfl))).trans (congrArg (Value.int .i64) (by omega))) (by omega)
                · obtain rfl := Option.some.inj ho
                  obtain rfl := Option.some.inj hc
                  exact wp_load_bs 25 _ rfl 64 gD (k * 64) (hrd 8 _ _ 64 rfl rfl rfl (by kernel_rfl) (by kernel_rfl)) (cf (gk p D k)) (fun q hq => (hDc.out.below hBw).cells (by decide) (k) (by omega) q hq) 5 uPoly sPoly
                · obtain rfl := Option.some.inj ho
                  obtain rfl := Option.some.inj hc
                  exact wp_callB 55 [.tmp 56, .tmp 60, .tmp 65] _ rfl [.int .i64 p, .agg (u8s 64 (cf (gk p D (k + 1)))), .agg (u8s 64 (cf (gk p D k)))] (by simp only [List.map_cons, List.map_nil, (hrd 0 _ _ 56 rfl rfl rfl (by kernel_rfl) (by kernel_rfl)), (hrd 4 _ _ 60 rfl rfl rfl (by kernel_rfl) (by kernel_rfl)), (hrd 9 _ _ 65 rfl rfl rfl (by kernel_rfl) (by kernel_rfl))]) Try.call55 _ (hdv.out w9)
                · obtain rfl := Option.some.inj ho
                  obtain rfl := Option.some.inj hc
                  exact wp_move _ (.tuple #[.agg (u8s 64 (cf QT)), .agg (u8s 64 (cf RT))]) rfl (hrd 10 _ _ 66 rfl rfl rfl (by kernel_rfl) (by kernel_rfl))
                · obtain rfl := Option.some.inj ho
                  obtain rfl := Option.some.inj hc
                  exact wp_extract _ 0 #[.agg (u8s 64 (cf QT)), .agg (u8s 64 (cf RT))] _ rfl (hrd 11 _ _ 55 rfl rfl rfl (by kernel_rfl) (by kernel_rfl)) rfl
                · obtain rfl := Option.some.inj ho
                  obtain rfl := Option.some.inj hc
                  exact wp_extract _ 1 #[.agg (u8s 64 (cf QT)), .agg (u8s 64 (cf RT))] _ rfl (hrd 11 _ _ 55 rfl rfl rfl (by kernel_rfl) (by kernel_rfl)) rfl
                · cases hc
                · cases hc
                · cases hc
                · cases hc
                · cases hc
              intro vals xK hBw hc hr
              have e0 : vals 0 = .int .i64 p := hc 0 _ (by simp) rfl
              have e1 : vals 1 = .slice (some ⟨gD, 0, none⟩) (n + 1) (n + 1) := hc 1 _ (by simp) rfl
              have e2 : vals 2 = .int .i64 ((k : Int) + 1) := hc 2 _ (by simp) rfl
              have e3 : vals 3 = .pointer (some ⟨gD, (k + 1) * 64, none⟩) := hc 3 _ (by simp) rfl
              have e4 : vals 4 = .agg (u8s 64 (cf (gk p D (k + 1)))) := hc 4 _ (by simp) rfl
              have e5 : vals 5 = .slice (some ⟨gD, 0, none⟩) (n + 1) (n + 1) := hc 5 _ (by simp) rfl
              have e6 : vals 6 = .int .i64 ((k : Int) + 1) := hc 6 _ (by simp) rfl
              have e7 : vals 7 = .int .i64 (k : Int) := hc 7 _ (by simp) rfl
              have e8 : vals 8 = .pointer (some ⟨gD, k * 64, none⟩) := hc 8 _ (by simp) rfl
              have e9 : vals 9 = .agg (u8s 64 (cf (gk p D k))) := hc 9 _ (by simp) rfl
              have e10 : vals 10 = .tuple #[.agg (u8s 64 (cf QT)), .agg (u8s 64 (cf RT))] := hc 10 _ (by simp) rfl
              have e11 : vals 11 = .tuple #[.agg (u8s 64 (cf QT)), .agg (u8s 64 (cf RT))] := hc 11 _ (by simp) rfl
              have e12 : vals 12 = .agg (u8s 64 (cf QT)) := hc 12 _ (by simp) rfl
              have e13 : vals 13 = .agg (u8s 64 (cf RT)) := hc 13 _ (by simp) rfl
              obtain ⟨gK0, p0, hgK0, hK0⟩ : ∃ g, vals 14 = .pointer (some ⟨g, 0, none⟩) ∧ _ ≤ g ∧ Blk xK g (u8s 64 (cf QT)) 25 := hr 0 (by decide)
              obtain ⟨gK1, p1, hgK1, hK1⟩ : ∃ g, vals 15 = .pointer (some ⟨g, 0, none⟩) ∧ _ ≤ g ∧ Blk xK g (u8s 64 (cf RT)) 25 := hr 1 (by decide)
              simp only [List.length_cons, List.length_nil, Nat.zero_add, Nat.reduceAdd, List.replicate, putAll, if_true, Act.put, List.setIfInBounds_toArray, List.set_cons_zero, List.set_cons_succ, e0, e1, e2, e3, e4, e5, e6, e7, e8, e9, e10, e11, e12, e13, p0, p1]
              clear hc hr e0 e1 e2 e3 e4 e5 e6 e7 e8 e9 e10 e11 e12 e13 p0 p1
              have hO2 := Lib.hid (hO.below hBw)
              have hD2 := Lib.hid (hDc.out.below hBw)
              have hb2 := Lib.hid (below_step hb.out hBw)
              have hsz := Nat.le_trans hsq hBw.size
              clear hO hDc hb hBw hdv
              have hn := below_new xK (.cells (u8s 64 (cf QT)) 25)
              have hB3 := Lib.hid (hO2.out.below hn)
              have hD3 := Lib.hid (hD2.out.below hn)
              have hb3 := Lib.hid (below_step hb2.out hn)
              have nw := Lib.hid (arr_news xK 64 25 QT)
              have hbs := Lib.hid (Nat.le_trans hsz hn.size)
              clear hn hO2 hD2 hb2 hsz hsq
              go_wp2_with ((with_reducible refine wpl_guard ?_); first | (refine wpl_load_arr rfl 25 _ rfl _ rfl _ _ hK0 _ _ uPoly sPoly ?_) | (refine wpl_buildSlice_arr rfl 38 25 64 _ rfl uTlnT sPoly zPoly (by decide) (by decide) (cf QT) rfl ?_) | (at_builtin; refine wpl_append_farB rfl _ _ 38 rfl (wx.heap.size) 25 _ 64 64 uTlnT iPolyB (by simp [Value.cells, u8s_size]) (by decide) (by decide) _ k _ rfl hB3.out ⟨xK.heap.size, 0, none⟩ rfl (u8s 64 (cf QT)).toList (by rw [Array.length_toList, u8s_size]) (fun j u h => by rw [addr_add]; exact nw.out j u h) (arr_ones 64 QT) (by omega) hbs.out ?_))
              intro v5 w5 hown5 hg5 _
              have hB5 := BsL.snoc (M := fun i => monic p (D i)) (by decide) hQTH.out hown5
              have hD5 := Lib.hid (hD3.out.kept hg5 (.inr fun e => by have := (hB3.out.lt gD e.symm).1; omega))
              have hb5 := Lib.hid (bsl_low hb3.out hB3.out (by omega) (Nat.le_trans (by omega) hbs.out) hg5)
              have hs5 := Lib.hid (Nat.le_trans hbs.out hg5.size)
              clear hown5 hg5 hB3 hD3 hb3 nw hbs
              go_wp2_with fail
              go_roundw
              case rel => exact ⟨k + 1, by omega, by go_num, hB5, hD5, hs5.out, hb5⟩
              case measure => simp [intOf] <;> omega
            · have ekn : n = k := by omega
              subst ekn
              have hO2 := Lib.hid (hO.mono (by omega : w.heap.size ≤ wx.heap.size))
              have hkI : ¬ ((n : Int) + 1 ≤ (n : Int)) := by omega
              clear hO hDc
              go_wp2_with fail
              go_ret
              exact ⟨_, rfl, hO2.out, hb.out⟩
end Go.Proofs.Ytnkkkgaojhkniab
