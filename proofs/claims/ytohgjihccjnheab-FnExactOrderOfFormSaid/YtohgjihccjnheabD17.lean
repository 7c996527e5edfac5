/- Walks: orders of forms. -/
import Derived.Test.YtohgjihccjnheabD15
set_option linter.unusedVariables false
set_option linter.unusedSimpArgs false
namespace Go.Proofs.Ytohgjihccjnheab
open Go.RowKit

section
variable {P : Program} {ops : Array Oper} {rest : List Oper} {o : Oper} {a : Act} {w : World} {Q : Exit → Act → World → Prop}
theorem run_part_arr (e e' : TypeId) (N n off : Nat) (F : Nat → Int) (he : P.underlying e = some (.array n e')) (hs : (P.info? e).map (·.size) = some n) (h : off + n ≤ N) :
    (part e (u8s N F) off).run P w = .ok (.agg (u8s n fun j => F (off + j))) w := by
  obtain ⟨inf, hinf, hsz⟩ := Option.map_eq_some_iff.1 hs
  have hsize : (sizeOf e).run P w = .ok n w := by simp [sizeOf, typeInfo, hinf, hsz, Sem.run_bind]
  have hag : (isAgg e).run P w = .ok true w := by unfold isAgg; rw [Sem.run_bind, run_underlying he w]; rfl
  have hex : (u8s N F).extract off (off + n) = u8s n (fun j => F (off + j)) := by
    refine eq_arr (by rw [Array.size_extract, u8s_size]; omega) fun j hj => ?_
    rw [Array.getElem?_extract, if_pos (by rw [u8s_size]; omega), u8s_get _ (by omega)]
  simp only [part, Sem.run_bind, hag, Result.andThen_ok]
  simp only [if_true, Sem.run_bind, hsize, Result.andThen_ok, Sem.run_pure, hex]
/-- Equality of two structs of two arrays of bytes. -/
theorem run_equal_form (d : Nat) (t e e' : TypeId) (f0 f1 : Field) (ht : P.underlying t = some (.struct #[f0, f1])) (h0 : f0.type = e) (h1 : f1.type = e) (o0 : f0.offset = 0) (o1 : f1.offset = 64) (n0 : f0.name ≠ "_") (n1 : f1.name ≠ "_")
    (hst : P.stoodInHeld t = false) (he : P.underlying e = some (.array 64 e')) (hs : (P.info? e).map (·.size) = some 64) (he' : P.underlying e' = some (.int .u8)) (hs' : (P.info? e').map (·.size) = some 1) (F G : Nat → Int) (b : Bool) (hb : (∀ i, i < 128 → F i = G i) ↔ b = true) :
    (Op.equalIn (d + 3) t (.agg (u8s 128 F)) (.agg (u8s 128 G))).run P w = .ok b w := by
  have p0 := fun X => run_part_arr (P := P) (w := w) e e' 128 64 0 X he hs (by omega)
  have p1 := fun X => run_part_arr (P := P) (w := w) e e' 128 64 64 X he hs (by omega)
  have q0 : (Op.equalIn (d + 2) e (.agg (u8s 64 fun j => F (0 + j))) (.agg (u8s 64 fun j => G (0 + j)))).run P w = .ok (decide (∀ i : Nat, i < 64 → F (0 + i) = G (0 + i))) w := run_equal_arr (P := P) (w := w) d e e' .u8 64 (fun j => F (0 + j)) (fun j => G (0 + j)) he he' hs'
  have q1 : (Op.equalIn (d + 2) e (.agg (u8s 64 fun j => F (64 + j))) (.agg (u8s 64 fun j => G (64 + j)))).run P w = .ok (decide (∀ i : Nat, i < 64 → F (64 + i) = G (64 + i))) w := run_equal_arr (P := P) (w := w) d e e' .u8 64 (fun j => F (64 + j)) (fun j => G (64 + j)) he he' hs'
  rw [Op.equalIn.eq_def]
  simp only [Sem.run_bind, run_underlying ht w, Result.andThen_ok, run_program, hst, Bool.false_eq_true, if_false, Sem.run_pure]
  simp only [List.forIn_toArray, List.forIn_cons, List.forIn_nil, ne_eq, n0, n1, not_false_eq_true, if_true, h0, h1, o0, o1, Sem.run_bind, p0, p1, Result.andThen_ok]
  rw [q0]
  by_cases c0 : ∀ i, i < 64 → F (0 + i) = G (0 + i)
  · simp only [decide_eq_true c0, Bool.not_true, Bool.false_eq_true, if_false, Sem.run_pure, Sem.run_bind, p1, q1, Result.andThen_ok]
    by_cases c1 : ∀ i, i < 64 → F (64 + i) = G (64 + i)
    · simp only [decide_eq_true c1, Bool.not_true, Bool.false_eq_true, if_false, Sem.run_pure, Result.andThen_ok]
      have : ∀ i, i < 128 → F i = G i := fun i hi => by
        by_cases h : i < 64
        · have := c0 i h; rwa [Nat.zero_add] at this
        · have := c1 (i - 64) (by omega); rwa [show 64 + (i - 64) = i by omega] at this
      rw [hb.1 this]
    · simp only [decide_eq_false c1, Bool.not_false, if_true, Sem.run_pure, Result.andThen_ok]
      have : ¬ ∀ i, i < 128 → F i = G i := fun h => c1 fun i hi => h _ (by omega)
      cases b
      · rfl
      · exact absurd (hb.2 rfl) this
  · simp only [decide_eq_false c0, Bool.not_false, if_true, Sem.run_pure, Result.andThen_ok]
    have : ¬ ∀ i, i < 128 → F i = G i := fun h => c0 fun i hi => h _ (by omega)
    cases b
    · rfl
    · exact absurd (hb.2 rfl) this
def eqFB (P : Program) (t e : TypeId) : Bool := match P.underlying t with
  | some (.struct fs) => (match fs.toList with
    | [f0, f1] => f0.type == e && f1.type == e && f0.offset == 0 && f1.offset == 64 && (f0.name != "_") && (f1.name != "_") && !P.stoodInHeld t
    | _ => false)
  | _ => false
theorem wp_neq_form (t t' e e' : TypeId) (x y : Operand) (hop : o.op = .binOp .neq t x y t') (F G : Nat → Int) (hx : a.eval x = .agg (u8s 128 F)) (hy : a.eval y = .agg (u8s 128 G)) (hB : eqFB P t e = true)
    (he : P.underlying e = some (.array 64 e')) (hs : (P.info? e).map (·.size) = some 64) (he' : P.underlying e' = some (.int .u8)) (hs' : (P.info? e').map (·.size) = some 1) (hm : P.eqGuardType P.depth t = false) (b : Bool) (hb : (∀ i, i < 128 → F i = G i) ↔ b = true) :
    o.wp P a w (fun a' w' => a' = a.put o.dst (.bool (!b)) ∧ Below w.heap.size w w') Q := by
  unfold eqFB at hB
  split at hB
  · rename_i fs ht0
    split at hB
    case h_2 => cases hB
    rename_i f0 f1 hfs
    have ht : P.underlying t = some (.struct #[f0, f1]) := by
      rw [ht0]
      have : fs = #[f0, f1] := by rw [← Array.toArray_toList (xs := fs), hfs]
      rw [this]
    simp only [Bool.and_eq_true, beq_iff_eq, bne_iff_ne, Bool.not_eq_true'] at hB
    obtain ⟨⟨⟨⟨⟨⟨b1, b2⟩, b3⟩, b4⟩, b5⟩, b6⟩, b7⟩ := hB
    have h1 := run_equal_form (P := P) (w := w) 9997 t e e' f0 f1 ht b1 b2 b3 b4 b5 b6 b7 he hs he' hs' F G b hb
    have h2 := run_eqGuard_agg (P := P) w .neq t x y (u8s 128 F) (u8s 128 G) hm
    unfold Oper.wp execOp
    simp only [hop, hx, hy, Sem.run_bind, h2, Result.andThen_ok, run_neq_struct, h1]
    exact ⟨rfl, Below.refl _ _⟩
  · cases hB
end
theorem gForm : Try.prog.eqGuardType Try.prog.depth 30 = false := by kernel_rfl
theorem eqF : eqFB Try.prog 30 27 = true := by kernel_rfl
theorem fm_eq_iff {xs ys xs' ys' : List Int} (h1 : Tr xs) (h2 : Tr ys) (h3 : Tr xs') (h4 : Tr ys') (l1 : xs.length ≤ 64) (l2 : ys.length ≤ 64) (l3 : xs'.length ≤ 64) (l4 : ys'.length ≤ 64) :
    (∀ i, i < 128 → fmF (cf xs) (cf ys) i = fmF (cf xs') (cf ys') i) ↔ (xs, ys) = (xs', ys') := by
  constructor
  · intro h
    have e1 : xs = xs' := Tr_ext h1 h3 fun i => by
      by_cases hi : i < 64
      · have := h i (by omega); unfold fmF at this; rwa [if_pos hi, if_pos hi] at this
      · rw [cf_ge xs i (by omega), cf_ge xs' i (by omega)]
    have e2 : ys = ys' := Tr_ext h2 h4 fun i => by
      by_cases hi : i < 64
      · have := h (64 + i) (by omega); unfold fmF at this; rwa [if_neg (by omega), if_neg (by omega), Nat.add_sub_cancel_left] at this
      · rw [cf_ge ys i (by omega), cf_ge ys' i (by omega)]
    rw [e1, e2]
  · intro h; injection h with h1 h2; subst h1; subst h2; exact fun _ _ => rfl
/-- How often. -/
structure Ord (p : Int) (ds xs ys : List Int) (K : Nat) : Prop where
  rd : Rdd p ds (xs, ys)
  one : orb p ds (xs, ys) 1 = (xs, ys)
  last : orb p ds (xs, ys) (K + 1) = ([1], [])
  first : ∀ j, j < K → orb p ds (xs, ys) (j + 1) ≠ ([1], [])
  le : K ≤ 1000000

set_option maxRecDepth 20000 in
set_option maxHeartbeats 2000000 in
theorem l07Order_any (p : Int) (ds xs ys : List Int) (K : Nat) (w : World) (hO : Ord p ds xs ys K) :
    Calls Try.prog 12 #[.int .i64 p, .agg (u8s 64 (cf ds)), .agg (u8s 128 (fmF (cf xs) (cf ys)))] w fun e w' => e = .returned (.int .i64 ((K : Int) + 1)) ∧ Below w.heap.size w w' := by
  have hOH := Lib.hid hO
  obtain ⟨hb, hA, hB⟩ := boxes2 w (u8s 64 (cf ds)) (u8s 128 (fmF (cf xs) (cf ys))) 27 30
  clear hO
  go_enter Try.func12, Try.ntmps12
  go_wp2_with ((with_reducible refine wpl_guard ?_); first | (refine wpl_load_str rfl 30 _ rfl _ rfl _ _ hB tForm sForm ?_) | (refine wpl_alloc_arr rfl 30 rfl _ zForm ?_) | (refine wpl_store_new rfl 30 _ _ rfl _ rfl rfl _ rfl sForm (by simp only [u8s_size]) (u8s_oneCell _ _) ?_))
  have hN := Blk.newAt (w := ((w.alloc (.cells (u8s 64 (cf ds)) 27)).alloc (.cells (u8s 128 (fmF (cf xs) (cf ys))) 30))) (n := w.heap.size + 1 + 1) (by simp) (u8s 128 (fmF (cf xs) (cf ys))) 30
  replace hA := hA.alloc (.cells (u8s 128 (fmF (cf xs) (cf ys))) 30)
  replace hB := hB.alloc (.cells (u8s 128 (fmF (cf xs) (cf ys))) 30)
  replace hb := below_step hb (below_new _ (.cells (u8s 128 (fmF (cf xs) (cf ys))) 30))
  generalize ((w.alloc (.cells (u8s 64 (cf ds)) 27)).alloc (.cells (u8s 128 (fmF (cf xs) (cf ys))) 30)).alloc (.cells (u8s 128 (fmF (cf xs) (cf ys))) 30) = v0 at *
  try simp only [Act.put, List.setIfInBounds_toArray, List.set_cons_zero, List.set_cons_succ]
  go_loopw [8] (fun kk wr => ∃ (j : Nat) (o1 o2 : List Int), j ≤ K ∧ kk = .int .i64 ((j : Int) + 1) ∧ Hid (orb p ds (xs, ys) (j + 1) = (o1, o2)) ∧ Blk wr w.heap.size (u8s 64 (cf ds)) 27 ∧ Blk wr (w.heap.size + 1) (u8s 128 (fmF (cf xs) (cf ys))) 30 ∧ Blk wr (w.heap.size + 1 + 1) (u8s 128 (fmF (cf o1) (cf o2))) 30 ∧ Below w.heap.size w wr) (fun kk _ => (K + 2 - (intOf kk).toNat))
  case atStart => exact ⟨0, xs, ys, by omega, rfl, Lib.hid hOH.out.one, hA, hB, hN, hb⟩
  case round =>
    clear hA hB hN hb
    obtain ⟨j, o1, o2, hj, rfl, hS, hA, hB, hN, hb⟩ := hrel
    have hro := orb_Rdd hOH.out.rd (j + 1)
    rw [hS.out] at hro
    have hur := unit_Rdd hOH.out.rd.1
    have hif : (∀ i, i < 128 → fmF (cf o1) (cf o2) i = fmF (cf [1]) (cf []) i) ↔ (o1, o2) = ([1], []) := fm_eq_iff hro.1.xP.tr hro.1.yP.tr hur.1.xP.tr hur.1.yP.tr hro.1.x64.le hro.1.y64.le (by simp) (by simp)
    have hjK := hOH.out.le
    by_cases h0 : j = K
    · subst h0
      have hL := hS.out.symm.trans hOH.out.last
      have hcb := Lib.hid (show (∀ i, i < 128 → fmF (cf o1) (cf o2) i = fmF (cf [1]) (cf []) i) ↔ true = true from hif.trans ⟨fun _ => rfl, fun _ => hL⟩)
      clear hif hL hro hur hS
      go_upto_region 2 with (fail)
      refine gen_guard (w := _) (by kernel_rfl) (by kernel_rfl) (by kernel_rfl)
          (fun i => ([fun zv _ => zv = .agg (u8s 128 (fmF (cf o1) (cf o2))), fun zv _ => zv = .agg (u8s 128 (fmF (cf [1]) (cf []))), fun zv _ => zv = .bool false] : List (Value → World → Prop)).getD i (fun _ _ => True))
          (fun w' => Blk w' (w.heap.size + 1 + 1) (u8s 128 (fmF (cf o1) (cf o2))) 30 ∧ True) ⟨hN.drew, trivial⟩ (fun w1 w2 h hb => ⟨h.1.keep hb, trivial⟩) ?_ ?_ ?_
      · intro i v w1 w2 h hb
        rcases i with _|_|_|i
        · exact h
        · exact h
        · exact h
        · exact h
      · intro i o ho a w2 hBl hSx hrd hpar
        rcases i with _|_|_|i
        · obtain rfl := Option.some.inj ho
          refine .inl ⟨rfl, ?_⟩
          exact wpv_of (wp_loadS 30 _ rfl _ (hpar 7 (.pointer (some ⟨w.heap.size + 1 + 1, 0, none⟩)) (by kernel_rfl) (by kernel_rfl)) _ _ hSx.1 tForm sForm) (fun _ _ => rfl)
        · obtain rfl := Option.some.inj ho
          refine .inl ⟨rfl, ?_⟩
          exact wpv_call 29 [] _ rfl [] (by simp only [List.map_cons, List.map_nil, ]) Try.call29 ((l07Unit_any w2).mono fun _ _ ⟨h1, h2⟩ => ⟨_, h1, rfl, h2⟩)
        · obtain rfl := Option.some.inj ho
          refine .inl ⟨rfl, ?_⟩
          have e10 : a.eval (.tmp 10) = .agg (u8s 128 (fmF (cf o1) (cf o2))) := hrd 0 _ 10 rfl rfl (by kernel_rfl) (by kernel_rfl)
          have e11 : a.eval (.tmp 11) = .agg (u8s 128 (fmF (cf [1]) (cf []))) := hrd 1 _ 11 rfl rfl (by kernel_rfl) (by kernel_rfl)
          exact wpv_of (wp_neq_form 30 _ 27 5 _ _ rfl _ _ e10 e11 eqF uPoly sPoly uByte sByte gForm true hcb.out) (fun _ _ => rfl)
        · simp at ho
      intro vals xE hBx hSx hc0
      have e0 : vals 0 = .agg (u8s 128 (fmF (cf o1) (cf o2))) := hc0 0 (by simp)
      have e1 : vals 1 = .agg (u8s 128 (fmF (cf [1]) (cf []))) := hc0 1 (by simp)
      have e2 : vals 2 = .bool false := hc0 2 (by simp)
      simp only [List.length_cons, List.length_nil, Nat.zero_add, Nat.reduceAdd, List.replicate, putAll, if_true, Act.put, List.setIfInBounds_toArray, List.set_cons_zero, List.set_cons_succ, e0, e1, e2]
      replace hA := hA.keep hBx
      replace hB := hB.keep hBx
      replace hN := hSx.1
      replace hb := below_step hb hBx
      clear hc0 hSx e0 e1 e2
      go_wp2_with fail
      go_ret
      exact ⟨rfl, hb⟩
    · have hne := hOH.out.first j (by omega)
      rw [hS.out] at hne
      have hcb := Lib.hid (show (∀ i, i < 128 → fmF (cf o1) (cf o2) i = fmF (cf [1]) (cf []) i) ↔ false = true from hif.trans ⟨fun h => absurd h hne, fun h => by cases h⟩)
      have hnx : orb p ds (xs, ys) (j + 1 + 1) = cpr p ds (o1, o2) (xs, ys) := by show cpr p ds (orb p ds (xs, ys) (j + 1)) (xs, ys) = _; rw [hS.out]
      have kc := fun w => l07Compose_any p ds o1 o2 xs ys w hro hOH.out.rd
      obtain ⟨m1, m2, hmm⟩ := pair_of (cpr p ds (o1, o2) (xs, ys))
      rw [hmm] at kc hnx
      have kcH := Lib.hid kc
      have hnxH := Lib.hid hnx
      clear hif hne kc hmm hnx hro hur hS
      go_upto_region 2 with (fail)
      refine gen_guard (w := _) (by kernel_rfl) (by kernel_rfl) (by kernel_rfl)
          (fun i => ([fun zv _ => zv = .agg (u8s 128 (fmF (cf o1) (cf o2))), fun zv _ => zv = .agg (u8s 128 (fmF (cf [1]) (cf []))), fun zv _ => zv = .bool true] : List (Value → World → Prop)).getD i (fun _ _ => True))
          (fun w' => Blk w' (w.heap.size + 1 + 1) (u8s 128 (fmF (cf o1) (cf o2))) 30 ∧ True) ⟨hN.drew, trivial⟩ (fun w1 w2 h hb => ⟨h.1.keep hb, trivial⟩) ?_ ?_ ?_
      · intro i v w1 w2 h hb
        rcases i with _|_|_|i
        · exact h
        · exact h
        · exact h
        · exact h
      · intro i o ho a w2 hBl hSx hrd hpar
        rcases i with _|_|_|i
        · obtain rfl := Option.some.inj ho
          refine .inl ⟨rfl, ?_⟩
          exact wpv_of (wp_loadS 30 _ rfl _ (hpar 7 (.pointer (some ⟨w.heap.size + 1 + 1, 0, none⟩)) (by kernel_rfl) (by kernel_rfl)) _ _ hSx.1 tForm sForm) (fun _ _ => rfl)
        · obtain rfl := Option.some.inj ho
          refine .inl ⟨rfl, ?_⟩
          exact wpv_call 29 [] _ rfl [] (by simp only [List.map_cons, List.map_nil, ]) Try.call29 ((l07Unit_any w2).mono fun _ _ ⟨h1, h2⟩ => ⟨_, h1, rfl, h2⟩)
        · obtain rfl := Option.some.inj ho
          refine .inl ⟨rfl, ?_⟩
          have e10 : a.eval (.tmp 10) = .agg (u8s 128 (fmF (cf o1) (cf o2))) := hrd 0 _ 10 rfl rfl (by kernel_rfl) (by kernel_rfl)
          have e11 : a.eval (.tmp 11) = .agg (u8s 128 (fmF (cf [1]) (cf []))) := hrd 1 _ 11 rfl rfl (by kernel_rfl) (by kernel_rfl)
          exact wpv_of (wp_neq_form 30 _ 27 5 _ _ rfl _ _ e10 e11 eqF uPoly sPoly uByte sByte gForm false hcb.out) (fun _ _ => rfl)
        · simp at ho
      intro vals xE hBx hSx hc0
      have e0 : vals 0 = .agg (u8s 128 (fmF (cf o1) (cf o2))) := hc0 0 (by simp)
      have e1 : vals 1 = .agg (u8s 128 (fmF (cf [1]) (cf []))) := hc0 1 (by simp)
      have e2 : vals 2 = .bool true := hc0 2 (by simp)
      simp only [List.length_cons, List.length_nil, Nat.zero_add, Nat.reduceAdd, List.replicate, putAll, if_true, Act.put, List.setIfInBounds_toArray, List.set_cons_zero, List.set_cons_succ, e0, e1, e2]
      replace hA := hA.keep hBx
      replace hB := hB.keep hBx
      replace hN := hSx.1
      replace hb := below_step hb hBx
      clear hc0 hSx e0 e1 e2
      go_wp2_with ((with_reducible refine wpl_guard ?_); first | (refine wpl_load_arr rfl 27 _ rfl _ rfl _ _ hA _ _ uPoly sPoly ?_) | (refine wpl_load_str rfl 30 _ rfl _ rfl _ _ hN tForm sForm ?_) | (refine wpl_load_str rfl 30 _ rfl _ rfl _ _ hB tForm sForm ?_))
      refine (kcH.out _).mono ?_
      rintro e u1 ⟨rfl, hn⟩
      replace hA := hA.keep hn
      replace hB := hB.keep hn
      replace hN := hN.keep hn
      replace hb := below_step hb hn
      clear hn
      go_upto_region 4 with ((with_reducible refine wpl_guard ?_); first | (refine wpl_store_arr rfl 30 _ _ rfl _ rfl _ rfl _ _ hN sForm (by simp only [u8s_size]) (u8s_oneCell _ _) ?_))
      have qN := hN.setRow_same (cs := u8s 128 (fmF (cf m1) (cf m2)))
      have qA := hA.setRow_other (g := (w.heap.size + 1 + 1)) (cs := u8s 128 (fmF (cf m1) (cf m2))) (by omega)
      have qB := hB.setRow_other (g := (w.heap.size + 1 + 1)) (cs := u8s 128 (fmF (cf m1) (cf m2))) (by omega)
      have qb := below_setRow hb (g := (w.heap.size + 1 + 1)) (by omega) (u8s 128 (fmF (cf m1) (cf m2)))
      generalize World.setRow _ (w.heap.size + 1 + 1) (u8s 128 (fmF (cf m1) (cf m2))) = v1 at *
      clear hA hB hN hb
      simp only [Act.put, List.setIfInBounds_toArray, List.set_cons_zero, List.set_cons_succ]
      go_wp2_with fail
      go_roundw
      case rel => exact ⟨j + 1, m1, m2, by omega, by first | go_num | (congr 1; omega), hnxH, qA, qB, qN, qb⟩
      case measure => simp only [intOf]; omega
end Go.Proofs.Ytohgjihccjnheab
