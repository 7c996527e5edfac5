/- Several texts in one: Eqr, Sp9, Sq1. -/
import Derived.Test.YtnkkkgaojhkniabSp8
set_option linter.unusedVariables false
set_option linter.unusedSimpArgs false
/- Walks: rows compared. -/
namespace Go.Proofs.Ytnkkkgaojhkniab
open Go.RowKit

set_option maxHeartbeats 1000000 in
theorem equalRows_any (va vb : Value) (xs ys : List Int) (w : World) (ha : IsRow w va xs) (hb : IsRow w vb ys) (b : Bool) (h : decide (xs = ys) = b) :
    Calls Try.prog 36 #[va, vb] w fun e w' => e = .returned (.bool b) ∧ Below w.heap.size w w' := by
  have haH := Lib.hid ha
  have hbH := Lib.hid hb
  obtain ⟨oa, ca, rfl, hlea, hcapa, hca⟩ := ha
  obtain ⟨ob, cb, rfl, hleb, hcapb, hcb⟩ := hb
  have hcaH := Lib.hid hca
  have hcbH := Lib.hid hcb
  have hH := Lib.hid h
  unfold maxLen at hcapa hcapb
  clear hca hcb h
  by_cases hl : xs.length = ys.length
  · have hl2 : ((xs.length : Int) == (ys.length : Int)) = true := by rw [hl, beq_self_eq_true]
    have hfull : (∀ j, j < xs.length → cf xs j = cf ys j) → b = true := fun h => by
      rw [← hH.out]; refine decide_eq_true (list_ext_cf hl fun i => ?_)
      by_cases hi : i < xs.length
      · exact h i hi
      · rw [cf_ge _ _ (by omega), cf_ge _ _ (by omega)]
    have hno : ∀ j, cf xs j ≠ cf ys j → b = false := fun j h => by
      rw [← hH.out]; refine decide_eq_false fun e => h (by rw [e])
    have hfullH := Lib.hid hfull
    have hnoH := Lib.hid hno
    clear hfull hno
    generalize hL : xs.length = L at *
    have hL2 : ys.length = L := hl.symm
    rw [hL2] at hcbH hleb hl2 hbH ⊢
    clear hL2 hl hL
    go_enter Try.func36, Try.ntmps36
    go_wp2_with fail
    go_loopw [13] (fun i wr => ∃ k : Nat, k ≤ L ∧ i = .int .i64 k ∧ (∀ j, j < k → cf xs j = cf ys j) ∧ Below w.heap.size w wr) (fun i _ => L - (intOf i).toNat)
    case atStart => exact ⟨0, by omega, rfl, fun j hj => by omega, Below.refl _ _⟩
    case round =>
      obtain ⟨k, hk, rfl, hall, hb⟩ := hrel
      have hallH := Lib.hid hall
      clear hall
      by_cases hlt : k < L
      · obtain ⟨b1, o1, rfl, hc1⟩ := hcaH.out (by omega)
        obtain ⟨b2, o2, rfl, hc2⟩ := hcbH.out (by omega)
        have c1 := cell_below (hc1 k hlt) hb
        have c2 := cell_below (hc2 k hlt) hb
        have hi0 : (0 : Int) ≤ (k : Int) := by omega
        have hi1 : (k : Int) < (L : Int) := by omega
        clear hc1 hc2
        by_cases he : cf xs k = cf ys k
        · have heH := Lib.hid he
          have heb : (cf xs k == cf ys k) = true := by rw [he, beq_self_eq_true]
          clear he
          go_wp2_with fail
          go_quiet (fail)
          go_wp2
          go_roundw
          case rel => exact ⟨k + 1, by omega, by go_num, fun j hj => by
            by_cases e1 : j = k
            · subst e1; exact heH.out
            · exact hallH.out j (by omega), ⟨hb.os, hb.tape, hb.output, hb.size, hb.block⟩⟩
          case measure => simp [intOf] <;> omega
        · have hf := hnoH.out k he
          subst hf
          have heb : (cf xs k == cf ys k) = false := beq_eq_false_iff_ne.2 he
          clear he
          go_wp2_with fail
          go_quiet (fail)
          go_wp2
          go_ret
          exact ⟨rfl, ⟨hb.os, hb.tape, hb.output, hb.size, hb.block⟩⟩
      · obtain rfl : k = L := by omega
        have ht := hfullH.out hallH.out
        subst ht
        go_wp2_with fail
        go_ret
        exact ⟨rfl, hb⟩
  · have hf : b = false := by rw [← hH.out]; exact decide_eq_false fun e => hl (by rw [e])
    subst hf
    have hl2 : ((xs.length : Int) == (ys.length : Int)) = false := by rw [beq_eq_false_iff_ne]; omega
    clear hcaH hcbH hH haH hbH
    go_enter Try.func36, Try.ntmps36
    go_wp2_with fail
    go_ret
    exact ⟨rfl, Below.refl _ _⟩
end Go.Proofs.Ytnkkkgaojhkniab

/- Walks: AreSimilar. -/
namespace Go.Proofs.Ytnkkkgaojhkniab
open Go.RowKit
section
variable {P : Program} {ops : Array Oper} {rest : List Oper} {o : Oper} {a : Act} {w : World} {Q : Exit → Act → World → Prop}
theorem wpK_neq_arr (t t' : TypeId) (x y : Operand) (hop : o.op = .binOp .neq t x y t') (n : Nat) (k : IntKind) (f g : Nat → Int) (e : TypeId)
    (hx : a.eval x = .agg (arr n fun i => .int k (f i))) (hy : a.eval y = .agg (arr n fun i => .int k (g i)))
    (ht : P.underlying t = some (.array n e)) (he : P.underlying e = some (.int k)) (hs : (P.info? e).map (·.size) = some 1) (hm : P.eqGuardType P.depth t = false)
    (b : Bool) (hb : decide (∀ i, i < n → f i = g i) = b) : o.wp P a w (fun a' w' => a' = a.put o.dst (.bool (!b)) ∧ Below w.heap.size w w') Q := by
  have h1 := run_equal_arr (P := P) (w := w) 9998 t e k n f g ht he hs
  have h2 := run_eqGuard_agg (P := P) w .neq t x y (arr n fun i => .int k (f i)) (arr n fun i => .int k (g i)) hm
  unfold Oper.wp execOp
  simp only [hop, hx, hy, Sem.run_bind, h2, Result.andThen_ok, run_neq_struct, h1, hb]
  exact ⟨rfl, Below.refl _ _⟩
end
/-- A list of rows that may be read. -/
def RwL (w : World) (v : Value) (n : Nat) (X : Nat → List Int) : Prop := ∃ (b c : Nat) (R : Nat → Value), v = .slice (some ⟨b, 0, none⟩) n c ∧ (∀ i, i < n → w.cell? ⟨b, i, none⟩ = some (R i)) ∧ ∀ i, i < n → IsRow w (R i) (X i)
theorem RwL.below {w w' : World} {v : Value} {n : Nat} {X : Nat → List Int} (h : RwL w v n X) (hb : Below w.heap.size w w') : RwL w' v n X := by
  obtain ⟨b, c, R, e, h1, h2⟩ := h
  exact ⟨b, c, R, e, fun i hi => cell_below (h1 i hi) hb, fun i hi => (h2 i hi).below hb⟩
theorem Fac.rwl {p n : Int} {F : Nat → Int} {N : Nat} {M : MxL} (h : Fac p n F N M) (v : Value) (w : World) (hv : IsRows w v N (sqM F)) : Calls Try.prog 31 #[.int .i64 p, v] w fun e w' => ∃ v', e = .returned v' ∧ RwL w' v' N (fun i => monic p (M i i)) ∧ Below w.heap.size w w' :=
  (h.invs v w hv).mono fun _ _ ⟨b, c, R, h1, _, h3, h4, h5⟩ => ⟨_, h1, ⟨b, c, R, rfl, fun i hi => h3.cellR hi, h4⟩, h5⟩
theorem Fac.bsl {p n : Int} {F : Nat → Int} {N : Nat} {M : MxL} (h : Fac p n F N M) (w : World) : Calls Try.prog 28 #[.int .i64 p, .int .i64 n, .agg (u8s 36 F)] w fun e w' => ∃ v', e = .returned v' ∧ BsL 25 64 w' 0 v' N (fun i => monic p (M i i)) ∧ Below w.heap.size w w' :=
  (h.factors w).mono fun _ _ ⟨_, _, h1, _, h3, h4⟩ => ⟨_, h1, h3.mono (Nat.zero_le _), h4⟩
theorem same_dec {p : Int} {x y : List Int} (hx : Po p x) (hy : Po p y) (lx : x.length ≤ 64) (ly : y.length ≤ 64) : (∀ i : Nat, i < 64 → cf x i = cf y i) ↔ x = y := by
  refine ⟨fun h => hx.ext hy fun i => ?_, fun h i _ => by rw [h]⟩
  by_cases hi : i < 64
  · exact h i hi
  · rw [cf_ge _ _ (by omega), cf_ge _ _ (by omega)]
set_option maxHeartbeats 400000 in
theorem same1_any (va vb : Value) (xs ys : List Int) (w : World) (ha : IsRow w va xs) (hb : IsRow w vb ys) :
    Calls Try.prog 35 #[va, vb] w fun e w' => e = .returned (.bool (decide (xs = ys))) ∧ Below w.heap.size w w' := by
  have H1 := Lib.hid (equalRows_any va vb xs ys w ha hb _ rfl)
  obtain ⟨a1, m1, c1, rfl⟩ := ha.isSlice
  obtain ⟨a2, m2, c2, rfl⟩ := hb.isSlice
  clear ha hb
  go_enter Try.func35, Try.ntmps35
  go_wp2_with fail
  refine H1.out.mono ?_
  rintro e u1 ⟨rfl, hb⟩
  go_wp2_with fail
  go_ret
  exact ⟨rfl, hb⟩
def sameF : Value := .func (.func 35) #[] #[]
set_option maxRecDepth 20000 in
set_option maxHeartbeats 2000000 in
theorem equalFunc_any (v1 v2 : Value) (n : Nat) (X Y : Nat → List Int) (w : World) (hn : n ≤ 6) (h1 : RwL w v1 n X) (h2 : RwL w v2 n Y) (z : Bool) (hz : (∀ i, i < n → X i = Y i) ↔ z = true) :
    Calls Try.prog 34 #[v1, v2, sameF] w fun e w' => e = .returned (.bool z) ∧ Below w.heap.size w w' := by
  obtain ⟨b1, c1, R1, rfl, q1, r1⟩ := h1
  obtain ⟨b2, c2, R2, rfl, q2, r2⟩ := h2
  have q1H := Lib.hid q1
  have q2H := Lib.hid q2
  have r1H := Lib.hid r1
  have r2H := Lib.hid r2
  have hzH := Lib.hid hz
  have hnI : (n : Int) ≤ 6 := by omega
  clear q1 q2 r1 r2 hz
  unfold sameF
  go_enter Try.func34, Try.ntmps34
  go_wp2_with fail
  go_loopw [17] (fun vi wr => ∃ k : Nat, k ≤ n ∧ vi = .int .i64 (k : Int) ∧ Hid (∀ i, i < k → X i = Y i) ∧ Below w.heap.size w wr) (fun vi _ => n - (intOf vi).toNat)
  case atStart => exact ⟨0, by omega, rfl, Lib.hid fun i h => absurd h (by omega), Below.refl _ _⟩
  case round =>
    obtain ⟨k, hk, rfl, hall, hb⟩ := hrel
    rename World => wr
    by_cases hlt : k < n
    · have hltI : (k : Int) < (n : Int) := by omega
      have c1' : wr.cell? ⟨b1, k, none⟩ = some (R1 k) := cell_below (q1H.out k hlt) hb
      have c2' : wr.cell? ⟨b2, k, none⟩ = some (R2 k) := cell_below (q2H.out k hlt) hb
      have x1 := (r1H.out k hlt).below hb
      have x2 := (r2H.out k hlt).below hb
      have H1 := Lib.hid (same1_any (R1 k) (R2 k) (X k) (Y k) wr x1 x2)
      obtain ⟨a1, m1, d1, e1⟩ := x1.isSlice
      obtain ⟨a2, m2, d2, e2⟩ := x2.isSlice
      rw [e1] at c1' H1
      rw [e2] at c2' H1
      clear x1 x2 e1 e2
      by_cases he : X k = Y k
      · have hd : decide (X k = Y k) = true := decide_eq_true he
        rw [hd] at H1
        have hal2 := Lib.hid (fun i (hi : i < k + 1) => by
          by_cases e : i = k
          · subst e; exact he
          · exact hall.out i (by omega) : ∀ i, i < k + 1 → X i = Y i)
        clear he hd hall
        go_wp2_with fail
        refine H1.out.mono ?_
        rintro e u1 ⟨rfl, hb1⟩
        replace hb := below_step hb hb1
        clear hb1 H1 c1' c2'
        go_wp2_with fail
        go_roundw
        case rel => exact ⟨k + 1, by omega, by go_num, hal2, hb⟩
        case measure => simp [intOf] <;> omega
      · have hd : decide (X k = Y k) = false := decide_eq_false he
        rw [hd] at H1
        have hzf : z = false := by
          cases z
          · rfl
          · exact absurd (hzH.out.2 rfl k hlt) he
        subst hzf
        clear he hd hall
        go_wp2_with fail
        refine H1.out.mono ?_
        rintro e u1 ⟨rfl, hb1⟩
        replace hb := below_step hb hb1
        clear hb1 H1 c1' c2'
        go_wp2_with fail
        go_ret
        exact ⟨rfl, hb⟩
    · obtain rfl : k = n := by omega
      have hzt : z = true := hzH.out.1 hall.out
      subst hzt
      go_wp2_with fail
      go_ret
      exact ⟨rfl, hb⟩
/-- Two matrices with their diagonal forms, compared. -/
def Sim (p n : Int) (F G : Nat → Int) (z : Bool) : Prop := ∃ N M M', Fac p n F N M ∧ Fac p n G N M' ∧ ((∀ i, i < N → monic p (M i i) = monic p (M' i i)) ↔ z = true)
set_option maxRecDepth 20000 in
set_option maxHeartbeats 4000000 in
theorem specAreSimilar_any (F G : Nat → Int) (p n : Int) (b c z : Bool) (w : World) (hF : By F) (hG : By G) (hb : SqOk p n F ↔ b = true) (hc : SqOk p n G ↔ c = true) (hz : b = true → c = true → Sim p n F G z) :
    Calls Try.prog 13 #[.int .i64 p, .int .i64 n, .agg (u8s 36 F), .agg (u8s 36 G)] w fun e w' => e = .returned (.tuple #[.bool (b && c && z), .int .i64 (onC (b && c))]) ∧ Below w.heap.size w w' := by
  have hFH := Lib.hid hF
  have hGH := Lib.hid hG
  have hbH := Lib.hid hb
  have hcH := Lib.hid hc
  have hzH := Lib.hid hz
  clear hF hG hb hc hz
  obtain ⟨hb, hA, hB⟩ := boxes2 w (u8s 36 F) (u8s 36 G) 30 30
  go_enter Try.func13, Try.ntmps13
  go_wp2_with ((with_reducible refine wpl_guard ?_); first | (refine wpl_load_arr rfl 30 _ rfl _ rfl _ _ hA _ _ uSquare sSquare ?_) | (refine wpl_load_arr rfl 30 _ rfl _ rfl _ _ hB _ _ uSquare sSquare ?_))
  refine (l05Is_any p n F b _ hFH.out hbH.out).mono ?_
  rintro e u1 ⟨rfl, hn⟩
  replace hA := hA.keep hn
  replace hB := hB.keep hn
  replace hb := below_step hb hn
  clear hn
  cases b
  · go_wp2_with fail
    go_ret2
    exact ⟨rfl, hb⟩
  go_wp2_with ((with_reducible refine wpl_guard ?_); first | (refine wpl_load_arr rfl 30 _ rfl _ rfl _ _ hA _ _ uSquare sSquare ?_) | (refine wpl_load_arr rfl 30 _ rfl _ rfl _ _ hB _ _ uSquare sSquare ?_))
  refine (l05Is_any p n G c _ hGH.out hcH.out).mono ?_
  rintro e u2 ⟨rfl, hn⟩
  replace hA := hA.keep hn
  replace hB := hB.keep hn
  replace hb := below_step hb hn
  clear hn
  cases c
  · go_wp2_with fail
    go_ret2
    exact ⟨rfl, hb⟩
  obtain ⟨N, M, M', hf', hg', hz'⟩ := hzH.out (by first | rfl | trivial) (by first | rfl | trivial)
  have hf := Lib.hid hf'
  have hg := Lib.hid hg'
  have hz := Lib.hid hz'
  have hN0 := hf'.pos
  have hN6 := hf'.le
  have hNI : (N : Int) ≤ 6 := by omega
  clear hf' hg' hz' hzH hbH hcH hFH hGH
  go_upto_region 3 with (fail)
  refine gen_guard (w := _) (by kernel_rfl) (by kernel_rfl) (by kernel_rfl)
      (fun i => ([fun zv _ => zv = .int .i64 p, fun zv _ => zv = .int .i64 n, fun zv _ => zv = .agg (u8s 36 F), fun v w' => BsL 25 64 w' 0 v N (fun i => monic p (M i i)), fun zv _ => zv = .int .i64 p, fun zv _ => zv = .int .i64 n, fun zv _ => zv = .agg (u8s 36 G), fun v w' => BsL 25 64 w' 0 v N (fun i => monic p (M' i i)), fun v w' => BsL 25 64 w' 0 v N (fun i => monic p (M i i)), fun v w' => BsL 25 64 w' 0 v N (fun i => monic p (M' i i))] : List (Value → World → Prop)).getD i (fun _ _ => True))
      (fun w' => Blk w' (w.heap.size) (u8s 36 F) 30 ∧ Blk w' (w.heap.size + 1) (u8s 36 G) 30 ∧ True) ⟨hA.drew, hB.drew, trivial⟩ (fun w1 w2 h hb => ⟨h.1.keep hb, h.2.1.keep hb, trivial⟩) ?_ ?_ ?_
  · intro i v w1 w2 h hb
    rcases i with _|_|_|_|_|_|_|_|_|_|i
    · exact h
    · exact h
    · exact h
    · exact BsL.below h hb
    · exact h
    · exact h
    · exact h
    · exact BsL.below h hb
    · exact BsL.below h hb
    · exact BsL.below h hb
    · exact h
  · intro i o ho a w2 hBl hSx hrd hpar
    rcases i with _|_|_|_|_|_|_|_|_|_|i
    · obtain rfl := Option.some.inj ho
      refine .inl ⟨rfl, ?_⟩
      have e0 : a.eval (.tmp 0) = .int .i64 p := hpar 0 _ (by kernel_rfl) (by kernel_rfl)
      exact wpv_of (wp_move _ _ rfl e0) (fun _ _ => rfl)
    · obtain rfl := Option.some.inj ho
      refine .inl ⟨rfl, ?_⟩
      have e1 : a.eval (.tmp 1) = .int .i64 n := hpar 1 _ (by kernel_rfl) (by kernel_rfl)
      exact wpv_of (wp_move _ _ rfl e1) (fun _ _ => rfl)
    · obtain rfl := Option.some.inj ho
      refine .inl ⟨rfl, ?_⟩
      exact wpv_of (wp_loadB 30 _ rfl _ (hpar 6 (.pointer (some ⟨w.heap.size, 0, none⟩)) (by kernel_rfl) (by kernel_rfl)) _ _ hSx.1 _ _ uSquare sSquare) (fun _ _ => rfl)
    · obtain rfl := Option.some.inj ho
      refine .inl ⟨rfl, ?_⟩
      have e25 : a.eval (.tmp 25) = .int .i64 p := hrd 0 _ 25 rfl rfl (by kernel_rfl) (by kernel_rfl)
      have e26 : a.eval (.tmp 26) = .int .i64 n := hrd 1 _ 26 rfl rfl (by kernel_rfl) (by kernel_rfl)
      have e27 : a.eval (.tmp 27) = .agg (u8s 36 F) := hrd 2 _ 27 rfl rfl (by kernel_rfl) (by kernel_rfl)
      exact wpv_call 28 [.tmp 25, .tmp 26, .tmp 27] _ rfl [.int .i64 p, .int .i64 n, .agg (u8s 36 F)] (by simp only [List.map_cons, List.map_nil, e25, e26, e27]) Try.call28 (hf.out.bsl w2)
    · obtain rfl := Option.some.inj ho
      refine .inl ⟨rfl, ?_⟩
      have e0 : a.eval (.tmp 0) = .int .i64 p := hpar 0 _ (by kernel_rfl) (by kernel_rfl)
      exact wpv_of (wp_move _ _ rfl e0) (fun _ _ => rfl)
    · obtain rfl := Option.some.inj ho
      refine .inl ⟨rfl, ?_⟩
      have e1 : a.eval (.tmp 1) = .int .i64 n := hpar 1 _ (by kernel_rfl) (by kernel_rfl)
      exact wpv_of (wp_move _ _ rfl e1) (fun _ _ => rfl)
    · obtain rfl := Option.some.inj ho
      refine .inl ⟨rfl, ?_⟩
      exact wpv_of (wp_loadB 30 _ rfl _ (hpar 7 (.pointer (some ⟨w.heap.size + 1, 0, none⟩)) (by kernel_rfl) (by kernel_rfl)) _ _ hSx.2.1 _ _ uSquare sSquare) (fun _ _ => rfl)
    · obtain rfl := Option.some.inj ho
      refine .inl ⟨rfl, ?_⟩
      have e29 : a.eval (.tmp 29) = .int .i64 p := hrd 4 _ 29 rfl rfl (by kernel_rfl) (by kernel_rfl)
      have e30 : a.eval (.tmp 30) = .int .i64 n := hrd 5 _ 30 rfl rfl (by kernel_rfl) (by kernel_rfl)
      have e31 : a.eval (.tmp 31) = .agg (u8s 36 G) := hrd 6 _ 31 rfl rfl (by kernel_rfl) (by kernel_rfl)
      exact wpv_call 28 [.tmp 29, .tmp 30, .tmp 31] _ rfl [.int .i64 p, .int .i64 n, .agg (u8s 36 G)] (by simp only [List.map_cons, List.map_nil, e29, e30, e31]) Try.call28 (hg.out.bsl w2)
    · obtain rfl := Option.some.inj ho
      refine .inl ⟨rfl, ?_⟩
      have h28 : (fun v w' => BsL 25 64 w' 0 v N (fun i => monic p (M i i))) (a.eval (.tmp 28)) w2 := hrd 3 _ 28 rfl rfl (by kernel_rfl) (by kernel_rfl)
      generalize e28 : a.eval (.tmp 28) = v28 at h28
      exact wpv_of (wp_assign _ _ rfl e28) (fun w' hb => by have h := h28; exact BsL.below h hb)
    · obtain rfl := Option.some.inj ho
      refine .inl ⟨rfl, ?_⟩
      have h32 : (fun v w' => BsL 25 64 w' 0 v N (fun i => monic p (M' i i))) (a.eval (.tmp 32)) w2 := hrd 7 _ 32 rfl rfl (by kernel_rfl) (by kernel_rfl)
      generalize e32 : a.eval (.tmp 32) = v32 at h32
      exact wpv_of (wp_assign _ _ rfl e32) (fun w' hb => by have h := h32; exact BsL.below h hb)
    · simp at ho
  intro vals xA hBx hSx hc0
  have e0 : vals 0 = .int .i64 p := hc0 0 (by simp)
  have e1 : vals 1 = .int .i64 n := hc0 1 (by simp)
  have e2 : vals 2 = .agg (u8s 36 F) := hc0 2 (by simp)
  have cA3 : (fun v w' => BsL 25 64 w' 0 v N (fun i => monic p (M i i))) (vals 3) xA := hc0 3 (by simp)
  generalize ev3 : vals 3 = uA3 at cA3
  have e4 : vals 4 = .int .i64 p := hc0 4 (by simp)
  have e5 : vals 5 = .int .i64 n := hc0 5 (by simp)
  have e6 : vals 6 = .agg (u8s 36 G) := hc0 6 (by simp)
  have cA7 : (fun v w' => BsL 25 64 w' 0 v N (fun i => monic p (M' i i))) (vals 7) xA := hc0 7 (by simp)
  generalize ev7 : vals 7 = uA7 at cA7
  have cA8 : (fun v w' => BsL 25 64 w' 0 v N (fun i => monic p (M i i))) (vals 8) xA := hc0 8 (by simp)
  generalize ev8 : vals 8 = uA8 at cA8
  have cA9 : (fun v w' => BsL 25 64 w' 0 v N (fun i => monic p (M' i i))) (vals 9) xA := hc0 9 (by simp)
  generalize ev9 : vals 9 = uA9 at cA9
  simp only [List.length_cons, List.length_nil, Nat.zero_add, Nat.reduceAdd, List.replicate, putAll, if_true, Act.put, List.setIfInBounds_toArray, List.set_cons_zero, List.set_cons_succ, e0, e1, e2, ev3, e4, e5, e6, ev7, ev8, ev9]
  replace hA := hSx.1
  replace hB := hSx.2.1
  replace hb := below_step hb hBx
  clear hc0 hSx e0 e1 e2 ev3 e4 e5 e6 ev7 ev8 ev9
  obtain ⟨g1, cg1, rfl, _⟩ := cA8.form hN0
  obtain ⟨g2, cg2, rfl, _⟩ := cA9.form hN0
  have q1 := Lib.hid (fun i (hi : i < N) => cA8.cells (by decide) i hi)
  have q2 := Lib.hid (fun i (hi : i < N) => cA9.cells (by decide) i hi)
  clear cA3 cA7 cA8 cA9
  go_wp2_with fail
  go_loopw [12] (fun vi wr => ∃ ix : Nat, ix ≤ N ∧ vi = .int .i64 (ix : Int) ∧ Hid (∀ i, i < ix → monic p (M i i) = monic p (M' i i)) ∧ Hid (∀ i, i < N → ∀ q, q < 64 → wr.cell? ⟨g1, i * 64 + q, none⟩ = some (.int .u8 (cf (monic p (M i i)) q))) ∧ Hid (∀ i, i < N → ∀ q, q < 64 → wr.cell? ⟨g2, i * 64 + q, none⟩ = some (.int .u8 (cf (monic p (M' i i)) q))) ∧ Below w.heap.size w wr) (fun vi _ => N - (intOf vi).toNat)
  case atStart => exact ⟨0, by omega, rfl, Lib.hid fun i h => absurd h (by omega), q1, q2, hb⟩
  case round =>
    clear q1 q2 hb hA hB
    obtain ⟨ix, hi, rfl, hall, q1, q2, hb⟩ := hrel
    rename World => wr
    by_cases hix : ix < N
    · have hixI : (ix : Int) < (N : Int) := by omega
      have hd0 := same_dec (hf.out.po ix) (hg.out.po ix) (by have := hf.out.mlen hix; omega) (by have := hg.out.mlen hix; omega)
      by_cases he : monic p (M ix ix) = monic p (M' ix ix)
      · have hd := Lib.hid (hd0.2 he)
        have hal2 := Lib.hid (fun i (hi : i < ix + 1) => by
          by_cases e : i = ix
          · subst e; exact he
          · exact hall.out i (by omega) : ∀ i, i < ix + 1 → monic p (M i i) = monic p (M' i i))
        clear he hd0 hall
        go_wp2_with fail
        go_upto_region 7 with (fail)
        refine gen_guard (w := _) (by kernel_rfl) (by kernel_rfl) (by kernel_rfl)
            (fun i => ([fun zv _ => zv = .slice (some ⟨g1, 0, none⟩) N cg1, fun zv _ => zv = .int .i64 (ix : Int), fun zv _ => zv = .pointer (some ⟨g1, ix * 64, none⟩), fun zv _ => zv = .agg (u8s 64 (cf (monic p (M ix ix)))), fun zv _ => zv = .slice (some ⟨g2, 0, none⟩) N cg2, fun zv _ => zv = .int .i64 (ix : Int), fun zv _ => zv = .pointer (some ⟨g2, ix * 64, none⟩), fun zv _ => zv = .agg (u8s 64 (cf (monic p (M' ix ix)))), fun zv _ => zv = .bool false] : List (Value → World → Prop)).getD i (fun _ _ => True))
            (fun w' => True) trivial (fun w1 w2 h hb => trivial) ?_ ?_ ?_
        · intro i v w1 w2 h hb
          rcases i with _|_|_|_|_|_|_|_|_|i
          · exact h
          · exact h
          · exact h
          · exact h
          · exact h
          · exact h
          · exact h
          · exact h
          · exact h
          · exact h
        · intro i o ho a w2 hBl hSx hrd hpar
          rcases i with _|_|_|_|_|_|_|_|_|i
          · obtain rfl := Option.some.inj ho
            refine .inl ⟨rfl, ?_⟩
            have e10 : a.eval (.tmp 10) = .slice (some ⟨g1, 0, none⟩) N cg1 := hpar 10 _ (by kernel_rfl) (by kernel_rfl)
            exact wpv_of (wp_move _ _ rfl e10) (fun _ _ => rfl)
          · obtain rfl := Option.some.inj ho
            refine .inl ⟨rfl, ?_⟩
            have e12 : a.eval (.tmp 12) = .int .i64 (ix : Int) := hpar 12 _ (by kernel_rfl) (by kernel_rfl)
            exact wpv_of (wp_move _ _ rfl e12) (fun _ _ => rfl)
          · obtain rfl := Option.some.inj ho
            refine .inl ⟨rfl, ?_⟩
            have e39 : a.eval (.tmp 39) = .slice (some ⟨g1, 0, none⟩) N cg1 := hrd 0 _ 39 rfl rfl (by kernel_rfl) (by kernel_rfl)
            have e40 : a.eval (.tmp 40) = .int .i64 (ix : Int) := hrd 1 _ 40 rfl rfl (by kernel_rfl) (by kernel_rfl)
            exact wpv_of (wp_index_bs 38 25 64 _ _ rfl uTlnT sPoly (by decide) g1 N cg1 ix .i64 e39 e40 hix) (fun _ _ => rfl)
          · obtain rfl := Option.some.inj ho
            refine .inl ⟨rfl, ?_⟩
            have e41 : a.eval (.tmp 41) = .pointer (some ⟨g1, ix * 64, none⟩) := hrd 2 _ 41 rfl rfl (by kernel_rfl) (by kernel_rfl)
            exact wpv_of (wp_load_bs 25 _ rfl 64 g1 (ix * 64) e41 _ (fun q hq => cell_below (q1.out ix hix q hq) hBl) 5 uPoly sPoly) (fun _ _ => rfl)
          · obtain rfl := Option.some.inj ho
            refine .inl ⟨rfl, ?_⟩
            have e11 : a.eval (.tmp 11) = .slice (some ⟨g2, 0, none⟩) N cg2 := hpar 11 _ (by kernel_rfl) (by kernel_rfl)
            exact wpv_of (wp_move _ _ rfl e11) (fun _ _ => rfl)
          · obtain rfl := Option.some.inj ho
            refine .inl ⟨rfl, ?_⟩
            have e12 : a.eval (.tmp 12) = .int .i64 (ix : Int) := hpar 12 _ (by kernel_rfl) (by kernel_rfl)
            exact wpv_of (wp_move _ _ rfl e12) (fun _ _ => rfl)
          · obtain rfl := Option.some.inj ho
            refine .inl ⟨rfl, ?_⟩
            have e43 : a.eval (.tmp 43) = .slice (some ⟨g2, 0, none⟩) N cg2 := hrd 4 _ 43 rfl rfl (by kernel_rfl) (by kernel_rfl)
            have e44 : a.eval (.tmp 44) = .int .i64 (ix : Int) := hrd 5 _ 44 rfl rfl (by kernel_rfl) (by kernel_rfl)
            exact wpv_of (wp_index_bs 38 25 64 _ _ rfl uTlnT sPoly (by decide) g2 N cg2 ix .i64 e43 e44 hix) (fun _ _ => rfl)
          · obtain rfl := Option.some.inj ho
            refine .inl ⟨rfl, ?_⟩
            have e45 : a.eval (.tmp 45) = .pointer (some ⟨g2, ix * 64, none⟩) := hrd 6 _ 45 rfl rfl (by kernel_rfl) (by kernel_rfl)
            exact wpv_of (wp_load_bs 25 _ rfl 64 g2 (ix * 64) e45 _ (fun q hq => cell_below (q2.out ix hix q hq) hBl) 5 uPoly sPoly) (fun _ _ => rfl)
          · obtain rfl := Option.some.inj ho
            refine .inl ⟨rfl, ?_⟩
            have e42 : a.eval (.tmp 42) = .agg (u8s 64 (cf (monic p (M ix ix)))) := hrd 3 _ 42 rfl rfl (by kernel_rfl) (by kernel_rfl)
            have e46 : a.eval (.tmp 46) = .agg (u8s 64 (cf (monic p (M' ix ix)))) := hrd 7 _ 46 rfl rfl (by kernel_rfl) (by kernel_rfl)
            exact wpv_of (wpK_neq_arr 25 _ _ _ rfl 64 .u8 (cf (monic p (M ix ix))) (cf (monic p (M' ix ix))) 5 e42 e46 uPoly uByte sByte gPoly true (decide_eq_true hd.out)) (fun _ _ => rfl)
          · simp at ho
        intro vals xB hBx hSx hc0
        have e0 : vals 0 = .slice (some ⟨g1, 0, none⟩) N cg1 := hc0 0 (by simp)
        have e1 : vals 1 = .int .i64 (ix : Int) := hc0 1 (by simp)
        have e2 : vals 2 = .pointer (some ⟨g1, ix * 64, none⟩) := hc0 2 (by simp)
        have e3 : vals 3 = .agg (u8s 64 (cf (monic p (M ix ix)))) := hc0 3 (by simp)
        have e4 : vals 4 = .slice (some ⟨g2, 0, none⟩) N cg2 := hc0 4 (by simp)
        have e5 : vals 5 = .int .i64 (ix : Int) := hc0 5 (by simp)
        have e6 : vals 6 = .pointer (some ⟨g2, ix * 64, none⟩) := hc0 6 (by simp)
        have e7 : vals 7 = .agg (u8s 64 (cf (monic p (M' ix ix)))) := hc0 7 (by simp)
        have e8 : vals 8 = .bool false := hc0 8 (by simp)
        simp only [List.length_cons, List.length_nil, Nat.zero_add, Nat.reduceAdd, List.replicate, putAll, if_true, Act.put, List.setIfInBounds_toArray, List.set_cons_zero, List.set_cons_succ, e0, e1, e2, e3, e4, e5, e6, e7, e8]
        replace hb := below_step hb hBx
        have q1' := Lib.hid (fun i (hi : i < N) q (hq : q < 64) => cell_below (q1.out i hi q hq) hBx)
        have q2' := Lib.hid (fun i (hi : i < N) q (hq : q < 64) => cell_below (q2.out i hi q hq) hBx)
        clear q1 q2 hc0 hSx e0 e1 e2 e3 e4 e5 e6 e7 e8
        go_wp2_with fail
        go_roundw
        case rel => exact ⟨ix + 1, by omega, by go_num, hal2, q1', q2', hb⟩
        case measure => simp [intOf] <;> omega
      · have hd := Lib.hid (fun h => he (hd0.1 h) : ¬ ∀ i : Nat, i < 64 → cf (monic p (M ix ix)) i = cf (monic p (M' ix ix)) i)
        have hzf : z = false := by
          cases z
          · rfl
          · exact absurd (hz.out.2 rfl ix hix) he
        subst hzf
        clear he hd0 hall
        go_wp2_with fail
        go_upto_region 7 with (fail)
        refine gen_guard (w := _) (by kernel_rfl) (by kernel_rfl) (by kernel_rfl)
            (fun i => ([fun zv _ => zv = .slice (some ⟨g1, 0, none⟩) N cg1, fun zv _ => zv = .int .i64 (ix : Int), fun zv _ => zv = .pointer (some ⟨g1, ix * 64, none⟩), fun zv _ => zv = .agg (u8s 64 (cf (monic p (M ix ix)))), fun zv _ => zv = .slice (some ⟨g2, 0, none⟩) N cg2, fun zv _ => zv = .int .i64 (ix : Int), fun zv _ => zv = .pointer (some ⟨g2, ix * 64, none⟩), fun zv _ => zv = .agg (u8s 64 (cf (monic p (M' ix ix)))), fun zv _ => zv = .bool true] : List (Value → World → Prop)).getD i (fun _ _ => True))
            (fun w' => True) trivial (fun w1 w2 h hb => trivial) ?_ ?_ ?_
        · intro i v w1 w2 h hb
          rcases i with _|_|_|_|_|_|_|_|_|i
          · exact h
          · exact h
          · exact h
          · exact h
          · exact h
          · exact h
          · exact h
          · exact h
          · exact h
          · exact h
        · intro i o ho a w2 hBl hSx hrd hpar
          rcases i with _|_|_|_|_|_|_|_|_|i
          · obtain rfl := Option.some.inj ho
            refine .inl ⟨rfl, ?_⟩
            have e10 : a.eval (.tmp 10) = .slice (some ⟨g1, 0, none⟩) N cg1 := hpar 10 _ (by kernel_rfl) (by kernel_rfl)
            exact wpv_of (wp_move _ _ rfl e10) (fun _ _ => rfl)
          · obtain rfl := Option.some.inj ho
            refine .inl ⟨rfl, ?_⟩
            have e12 : a.eval (.tmp 12) = .int .i64 (ix : Int) := hpar 12 _ (by kernel_rfl) (by kernel_rfl)
            exact wpv_of (wp_move _ _ rfl e12) (fun _ _ => rfl)
          · obtain rfl := Option.some.inj ho
            refine .inl ⟨rfl, ?_⟩
            have e39 : a.eval (.tmp 39) = .slice (some ⟨g1, 0, none⟩) N cg1 := hrd 0 _ 39 rfl rfl (by kernel_rfl) (by kernel_rfl)
            have e40 : a.eval (.tmp 40) = .int .i64 (ix : Int) := hrd 1 _ 40 rfl rfl (by kernel_rfl) (by kernel_rfl)
            exact wpv_of (wp_index_bs 38 25 64 _ _ rfl uTlnT sPoly (by decide) g1 N cg1 ix .i64 e39 e40 hix) (fun _ _ => rfl)
          · obtain rfl := Option.some.inj ho
            refine .inl ⟨rfl, ?_⟩
            have e41 : a.eval (.tmp 41) = .pointer (some ⟨g1, ix * 64, none⟩) := hrd 2 _ 41 rfl rfl (by kernel_rfl) (by kernel_rfl)
            exact wpv_of (wp_load_bs 25 _ rfl 64 g1 (ix * 64) e41 _ (fun q hq => cell_below (q1.out ix hix q hq) hBl) 5 uPoly sPoly) (fun _ _ => rfl)
          · obtain rfl := Option.some.inj ho
            refine .inl ⟨rfl, ?_⟩
            have e11 : a.eval (.tmp 11) = .slice (some ⟨g2, 0, none⟩) N cg2 := hpar 11 _ (by kernel_rfl) (by kernel_rfl)
            exact wpv_of (wp_move _ _ rfl e11) (fun _ _ => rfl)
          · obtain rfl := Option.some.inj ho
            refine .inl ⟨rfl, ?_⟩
            have e12 : a.eval (.tmp 12) = .int .i64 (ix : Int) := hpar 12 _ (by kernel_rfl) (by kernel_rfl)
            exact wpv_of (wp_move _ _ rfl e12) (fun _ _ => rfl)
          · obtain rfl := Option.some.inj ho
            refine .inl ⟨rfl, ?_⟩
            have e43 : a.eval (.tmp 43) = .slice (some ⟨g2, 0, none⟩) N cg2 := hrd 4 _ 43 rfl rfl (by kernel_rfl) (by kernel_rfl)
            have e44 : a.eval (.tmp 44) = .int .i64 (ix : Int) := hrd 5 _ 44 rfl rfl (by kernel_rfl) (by kernel_rfl)
            exact wpv_of (wp_index_bs 38 25 64 _ _ rfl uTlnT sPoly (by decide) g2 N cg2 ix .i64 e43 e44 hix) (fun _ _ => rfl)
          · obtain rfl := Option.some.inj ho
            refine .inl ⟨rfl, ?_⟩
            have e45 : a.eval (.tmp 45) = .pointer (some ⟨g2, ix * 64, none⟩) := hrd 6 _ 45 rfl rfl (by kernel_rfl) (by kernel_rfl)
            exact wpv_of (wp_load_bs 25 _ rfl 64 g2 (ix * 64) e45 _ (fun q hq => cell_below (q2.out ix hix q hq) hBl) 5 uPoly sPoly) (fun _ _ => rfl)
          · obtain rfl := Option.some.inj ho
            refine .inl ⟨rfl, ?_⟩
            have e42 : a.eval (.tmp 42) = .agg (u8s 64 (cf (monic p (M ix ix)))) := hrd 3 _ 42 rfl rfl (by kernel_rfl) (by kernel_rfl)
            have e46 : a.eval (.tmp 46) = .agg (u8s 64 (cf (monic p (M' ix ix)))) := hrd 7 _ 46 rfl rfl (by kernel_rfl) (by kernel_rfl)
            exact wpv_of (wpK_neq_arr 25 _ _ _ rfl 64 .u8 (cf (monic p (M ix ix))) (cf (monic p (M' ix ix))) 5 e42 e46 uPoly uByte sByte gPoly false (decide_eq_false hd.out)) (fun _ _ => rfl)
          · simp at ho
        intro vals xB hBx hSx hc0
        have e0 : vals 0 = .slice (some ⟨g1, 0, none⟩) N cg1 := hc0 0 (by simp)
        have e1 : vals 1 = .int .i64 (ix : Int) := hc0 1 (by simp)
        have e2 : vals 2 = .pointer (some ⟨g1, ix * 64, none⟩) := hc0 2 (by simp)
        have e3 : vals 3 = .agg (u8s 64 (cf (monic p (M ix ix)))) := hc0 3 (by simp)
        have e4 : vals 4 = .slice (some ⟨g2, 0, none⟩) N cg2 := hc0 4 (by simp)
        have e5 : vals 5 = .int .i64 (ix : Int) := hc0 5 (by simp)
        have e6 : vals 6 = .pointer (some ⟨g2, ix * 64, none⟩) := hc0 6 (by simp)
        have e7 : vals 7 = .agg (u8s 64 (cf (monic p (M' ix ix)))) := hc0 7 (by simp)
        have e8 : vals 8 = .bool true := hc0 8 (by simp)
        simp only [List.length_cons, List.length_nil, Nat.zero_add, Nat.reduceAdd, List.replicate, putAll, if_true, Act.put, List.setIfInBounds_toArray, List.set_cons_zero, List.set_cons_succ, e0, e1, e2, e3, e4, e5, e6, e7, e8]
        replace hb := below_step hb hBx
        have q1' := Lib.hid (fun i (hi : i < N) q (hq : q < 64) => cell_below (q1.out i hi q hq) hBx)
        have q2' := Lib.hid (fun i (hi : i < N) q (hq : q < 64) => cell_below (q2.out i hi q hq) hBx)
        clear q1 q2 hc0 hSx e0 e1 e2 e3 e4 e5 e6 e7 e8
        go_wp2_with fail
        go_ret2
        exact ⟨rfl, hb⟩
    · have e : N = ix := by omega
      subst e
      have hzt : z = true := hz.out.1 hall.out
      subst hzt
      go_wp2_with fail
      go_ret2
      exact ⟨rfl, hb⟩
set_option maxRecDepth 20000 in
set_option maxHeartbeats 4000000 in
theorem implAreSimilar_any (F G : Nat → Int) (p n : Int) (b c z : Bool) (w : World) (hF : By F) (hG : By G) (hb : SqOk p n F ↔ b = true) (hc : SqOk p n G ↔ c = true) (hz : b = true → c = true → Sim p n F G z) :
    Calls Try.prog 14 #[.int .i64 p, .int .i64 n, .agg (u8s 36 F), .agg (u8s 36 G)] w fun e w' => e = .returned (.tuple #[.bool (b && c && z), .int .i64 (onC (b && c))]) ∧ Below w.heap.size w w' := by
  have hFH := Lib.hid hF
  have hGH := Lib.hid hG
  have hbH := Lib.hid hb
  have hcH := Lib.hid hc
  have hzH := Lib.hid hz
  clear hF hG hb hc hz
  obtain ⟨hb, hA, hB⟩ := boxes2 w (u8s 36 F) (u8s 36 G) 30 30
  go_enter Try.func14, Try.ntmps14
  go_wp2_with ((with_reducible refine wpl_guard ?_); first | (refine wpl_load_arr rfl 30 _ rfl _ rfl _ _ hA _ _ uSquare sSquare ?_) | (refine wpl_load_arr rfl 30 _ rfl _ rfl _ _ hB _ _ uSquare sSquare ?_))
  refine (implIsSquare_any p n F b _ hFH.out hbH.out).mono ?_
  rintro e u1 ⟨rfl, hn⟩
  replace hA := hA.keep hn
  replace hB := hB.keep hn
  replace hb := below_step hb hn
  clear hn
  cases b
  · go_wp2_with fail
    go_ret2
    exact ⟨rfl, hb⟩
  go_wp2_with ((with_reducible refine wpl_guard ?_); first | (refine wpl_load_arr rfl 30 _ rfl _ rfl _ _ hA _ _ uSquare sSquare ?_) | (refine wpl_load_arr rfl 30 _ rfl _ rfl _ _ hB _ _ uSquare sSquare ?_))
  refine (implIsSquare_any p n G c _ hGH.out hcH.out).mono ?_
  rintro e u2 ⟨rfl, hn⟩
  replace hA := hA.keep hn
  replace hB := hB.keep hn
  replace hb := below_step hb hn
  clear hn
  cases c
  · go_wp2_with fail
    go_ret2
    exact ⟨rfl, hb⟩
  obtain ⟨N, M, M', hf', hg', hz'⟩ := hzH.out (by first | rfl | trivial) (by first | rfl | trivial)
  have hf := Lib.hid hf'
  have hg := Lib.hid hg'
  have hz := Lib.hid hz'
  have hN0 := hf'.pos
  have hN6 := hf'.le
  have hNI : (N : Int) ≤ 6 := by omega
  clear hf' hg' hz' hzH hbH hcH hFH hGH
  go_upto_region 3 with (fail)
  refine gen_guard (w := _) (by kernel_rfl) (by kernel_rfl) (by kernel_rfl)
      (fun i => ([fun zv _ => zv = .int .i64 p, fun zv _ => zv = .int .i64 n, fun zv _ => zv = .agg (u8s 36 F), fun v w' => IsRows w' v N (sqM F), fun v w' => RwL w' v N (fun i => monic p (M i i)), fun zv _ => zv = .int .i64 p, fun zv _ => zv = .int .i64 n, fun zv _ => zv = .agg (u8s 36 G), fun v w' => IsRows w' v N (sqM G), fun v w' => RwL w' v N (fun i => monic p (M' i i)), fun zv _ => zv = .bool z, fun zv _ => zv = .bool z] : List (Value → World → Prop)).getD i (fun _ _ => True))
      (fun w' => Blk w' (w.heap.size) (u8s 36 F) 30 ∧ Blk w' (w.heap.size + 1) (u8s 36 G) 30 ∧ True) ⟨hA.drew, hB.drew, trivial⟩ (fun w1 w2 h hb => ⟨h.1.keep hb, h.2.1.keep hb, trivial⟩) ?_ ?_ ?_
  · intro i v w1 w2 h hb
    rcases i with _|_|_|_|_|_|_|_|_|_|_|_|i
    · exact h
    · exact h
    · exact h
    · exact IsRows.below h hb
    · exact RwL.below h hb
    · exact h
    · exact h
    · exact h
    · exact IsRows.below h hb
    · exact RwL.below h hb
    · exact h
    · exact h
    · exact h
  · intro i o ho a w2 hBl hSx hrd hpar
    rcases i with _|_|_|_|_|_|_|_|_|_|_|_|i
    · obtain rfl := Option.some.inj ho
      refine .inl ⟨rfl, ?_⟩
      have e0 : a.eval (.tmp 0) = .int .i64 p := hpar 0 _ (by kernel_rfl) (by kernel_rfl)
      exact wpv_of (wp_move _ _ rfl e0) (fun _ _ => rfl)
    · obtain rfl := Option.some.inj ho
      refine .inl ⟨rfl, ?_⟩
      have e1 : a.eval (.tmp 1) = .int .i64 n := hpar 1 _ (by kernel_rfl) (by kernel_rfl)
      exact wpv_of (wp_move _ _ rfl e1) (fun _ _ => rfl)
    · obtain rfl := Option.some.inj ho
      refine .inl ⟨rfl, ?_⟩
      exact wpv_of (wp_loadB 30 _ rfl _ (hpar 6 (.pointer (some ⟨w.heap.size, 0, none⟩)) (by kernel_rfl) (by kernel_rfl)) _ _ hSx.1 _ _ uSquare sSquare) (fun _ _ => rfl)
    · obtain rfl := Option.some.inj ho
      refine .inl ⟨rfl, ?_⟩
      have e24 : a.eval (.tmp 24) = .int .i64 n := hrd 1 _ 24 rfl rfl (by kernel_rfl) (by kernel_rfl)
      have e25 : a.eval (.tmp 25) = .agg (u8s 36 F) := hrd 2 _ 25 rfl rfl (by kernel_rfl) (by kernel_rfl)
      exact wpv_call 32 [.tmp 24, .tmp 25] _ rfl [.int .i64 n, .agg (u8s 36 F)] (by simp only [List.map_cons, List.map_nil, e24, e25]) Try.call32 (hf.out.mat w2)
    · obtain rfl := Option.some.inj ho
      refine .inl ⟨rfl, ?_⟩
      have e23 : a.eval (.tmp 23) = .int .i64 p := hrd 0 _ 23 rfl rfl (by kernel_rfl) (by kernel_rfl)
      have h26 : (fun v w' => IsRows w' v N (sqM F)) (a.eval (.tmp 26)) w2 := hrd 3 _ 26 rfl rfl (by kernel_rfl) (by kernel_rfl)
      generalize e26 : a.eval (.tmp 26) = v26 at h26
      exact wpv_call 31 [.tmp 23, .tmp 26] _ rfl [.int .i64 p, v26] (by simp only [List.map_cons, List.map_nil, e23, e26]) Try.call31 (hf.out.rwl _ w2 h26)
    · obtain rfl := Option.some.inj ho
      refine .inl ⟨rfl, ?_⟩
      have e0 : a.eval (.tmp 0) = .int .i64 p := hpar 0 _ (by kernel_rfl) (by kernel_rfl)
      exact wpv_of (wp_move _ _ rfl e0) (fun _ _ => rfl)
    · obtain rfl := Option.some.inj ho
      refine .inl ⟨rfl, ?_⟩
      have e1 : a.eval (.tmp 1) = .int .i64 n := hpar 1 _ (by kernel_rfl) (by kernel_rfl)
      exact wpv_of (wp_move _ _ rfl e1) (fun _ _ => rfl)
    · obtain rfl := Option.some.inj ho
      refine .inl ⟨rfl, ?_⟩
      exact wpv_of (wp_loadB 30 _ rfl _ (hpar 7 (.pointer (some ⟨w.heap.size + 1, 0, none⟩)) (by kernel_rfl) (by kernel_rfl)) _ _ hSx.2.1 _ _ uSquare sSquare) (fun _ _ => rfl)
    · obtain rfl := Option.some.inj ho
      refine .inl ⟨rfl, ?_⟩
      have e29 : a.eval (.tmp 29) = .int .i64 n := hrd 6 _ 29 rfl rfl (by kernel_rfl) (by kernel_rfl)
      have e30 : a.eval (.tmp 30) = .agg (u8s 36 G) := hrd 7 _ 30 rfl rfl (by kernel_rfl) (by kernel_rfl)
      exact wpv_call 32 [.tmp 29, .tmp 30] _ rfl [.int .i64 n, .agg (u8s 36 G)] (by simp only [List.map_cons, List.map_nil, e29, e30]) Try.call32 (hg.out.mat w2)
    · obtain rfl := Option.some.inj ho
      refine .inl ⟨rfl, ?_⟩
      have e28 : a.eval (.tmp 28) = .int .i64 p := hrd 5 _ 28 rfl rfl (by kernel_rfl) (by kernel_rfl)
      have h31 : (fun v w' => IsRows w' v N (sqM G)) (a.eval (.tmp 31)) w2 := hrd 8 _ 31 rfl rfl (by kernel_rfl) (by kernel_rfl)
      generalize e31 : a.eval (.tmp 31) = v31 at h31
      exact wpv_call 31 [.tmp 28, .tmp 31] _ rfl [.int .i64 p, v31] (by simp only [List.map_cons, List.map_nil, e28, e31]) Try.call31 (hg.out.rwl _ w2 h31)
    · obtain rfl := Option.some.inj ho
      refine .inl ⟨rfl, ?_⟩
      have h27 : (fun v w' => RwL w' v N (fun i => monic p (M i i))) (a.eval (.tmp 27)) w2 := hrd 4 _ 27 rfl rfl (by kernel_rfl) (by kernel_rfl)
      generalize e27 : a.eval (.tmp 27) = v27 at h27
      have h32 : (fun v w' => RwL w' v N (fun i => monic p (M' i i))) (a.eval (.tmp 32)) w2 := hrd 9 _ 32 rfl rfl (by kernel_rfl) (by kernel_rfl)
      generalize e32 : a.eval (.tmp 32) = v32 at h32
      exact wpv_call 34 [.tmp 27, .tmp 32, .func 35] _ rfl [v27, v32, sameF] (by simp only [List.map_cons, List.map_nil, e27, e32]; rfl) Try.call34 ((equalFunc_any _ _ N _ _ w2 hN6 h27 h32 z hz.out).mono fun _ _ h => ⟨_, h.1, rfl, h.2⟩)
    · obtain rfl := Option.some.inj ho
      refine .inl ⟨rfl, ?_⟩
      have e33 : a.eval (.tmp 33) = .bool z := hrd 10 _ 33 rfl rfl (by kernel_rfl) (by kernel_rfl)
      exact wpv_of (wp_assign _ _ rfl e33) (fun _ _ => rfl)
    · simp at ho
  intro vals xA hBx hSx hc0
  have e0 : vals 0 = .int .i64 p := hc0 0 (by simp)
  have e1 : vals 1 = .int .i64 n := hc0 1 (by simp)
  have e2 : vals 2 = .agg (u8s 36 F) := hc0 2 (by simp)
  have cA3 : (fun v w' => IsRows w' v N (sqM F)) (vals 3) xA := hc0 3 (by simp)
  generalize ev3 : vals 3 = uA3 at cA3
  have cA4 : (fun v w' => RwL w' v N (fun i => monic p (M i i))) (vals 4) xA := hc0 4 (by simp)
  generalize ev4 : vals 4 = uA4 at cA4
  have e5 : vals 5 = .int .i64 p := hc0 5 (by simp)
  have e6 : vals 6 = .int .i64 n := hc0 6 (by simp)
  have e7 : vals 7 = .agg (u8s 36 G) := hc0 7 (by simp)
  have cA8 : (fun v w' => IsRows w' v N (sqM G)) (vals 8) xA := hc0 8 (by simp)
  generalize ev8 : vals 8 = uA8 at cA8
  have cA9 : (fun v w' => RwL w' v N (fun i => monic p (M' i i))) (vals 9) xA := hc0 9 (by simp)
  generalize ev9 : vals 9 = uA9 at cA9
  have e10 : vals 10 = .bool z := hc0 10 (by simp)
  have e11 : vals 11 = .bool z := hc0 11 (by simp)
  simp only [List.length_cons, List.length_nil, Nat.zero_add, Nat.reduceAdd, List.replicate, putAll, if_true, Act.put, List.setIfInBounds_toArray, List.set_cons_zero, List.set_cons_succ, e0, e1, e2, ev3, ev4, e5, e6, e7, ev8, ev9, e10, e11]
  replace hA := hSx.1
  replace hB := hSx.2.1
  replace hb := below_step hb hBx
  clear hc0 hSx e0 e1 e2 ev3 ev4 e5 e6 e7 ev8 ev9 e10 e11
  clear cA3 cA4 cA8 cA9
  go_wp2_with fail
  go_ret2
  exact ⟨rfl, hb⟩
theorem AreSimilar_pair (p n : Int) (F G : Nat → Int) (_ : (Lit.int .i64 p).wf = true) (_ : (Lit.int .i64 n).wf = true) (hF : By F) (hG : By G) : ∃ (r0 : Bool) (r1 : Int),
    (∀ w, Calls Try.prog 13 #[.int .i64 p, .int .i64 n, .agg (u8s 36 F), .agg (u8s 36 G)] w fun e w' => e = .returned (.tuple #[.bool r0, .int .i64 r1]) ∧ Below w.heap.size w w') ∧
    (∀ w, Calls Try.prog 14 #[.int .i64 p, .int .i64 n, .agg (u8s 36 F), .agg (u8s 36 G)] w fun e w' => e = .returned (.tuple #[.bool r0, .int .i64 r1]) ∧ Below w.heap.size w w') := by
  obtain ⟨b, hb⟩ := dec_true (SqOk p n F)
  obtain ⟨c, hc⟩ := dec_true (SqOk p n G)
  obtain ⟨z, hz⟩ : ∃ z : Bool, b = true → c = true → Sim p n F G z := by
    by_cases h : b = true ∧ c = true
    · obtain ⟨N, M, h1⟩ := fac_ok hF (hb.2 h.1)
      obtain ⟨N', M', h2⟩ := fac_ok hG (hc.2 h.2)
      obtain rfl : N = N' := by have := h1.hn; have := h2.hn; omega
      obtain ⟨z, hz⟩ := dec_true (∀ i, i < N → monic p (M i i) = monic p (M' i i))
      exact ⟨z, fun _ _ => ⟨N, M, M', h1, h2, hz⟩⟩
    · exact ⟨false, fun h1 h2 => absurd ⟨h1, h2⟩ h⟩
  exact ⟨_, _, fun w => specAreSimilar_any F G p n b c z w hF hG hb hc hz, fun w => implAreSimilar_any F G p n b c z w hF hG hb hc hz⟩
end Go.Proofs.Ytnkkkgaojhkniab

/- Walks: rows of a low degree left out of a list. -/
namespace Go.Proofs.Ytnkkkgaojhkniab
open Go.RowKit
section
variable {P : Program} {ops : Array Oper} {rest : List Oper} {o : Oper} {a : Act} {w : World} {Q : Exit → Act → World → Prop}
theorem wpl_store_arrS (hw : Region.wanted o (yielded ops a.tmps) = true) (t : TypeId) (x y : Operand) (hop : o.op = .store t x y) (g k : Nat) (hx : a.eval x = .pointer (some ⟨g, k, none⟩)) (v : Value) (hy : a.eval y = v) (n : Nat) (R : Nat → Value) (T : TypeId) (hb : Blk w g (arr n R) T)
    (hk : k < n) (hs : (P.info? t).map (·.size) = some 1) (h1 : v.oneCell' = true) (h : wpList P ops Q rest (a.put o.dst undef) (w.setRow g (arr n (fun j => if j = k then v else R j)))) : wpList P ops Q (o :: rest) a w :=
  wpl_wanted hw fun _ hK => wp_store_arrN t x y hop g k hx v hy n R T hb hk hs h1 (hK _ _ h)
theorem slice_run_cells (n i m : Nat) (R : Nat → Value) (hm : i + m ≤ n) : ((arr n R).toList.take (i + 0) ++ List.replicate m (Value.slice none 0 0) ++ (arr n R).toList.drop (i + 0 + (List.replicate m (Value.slice none 0 0)).length)).toArray = arr n fun q => if i ≤ q ∧ q < i + m then .slice none 0 0 else R q := by
  apply Array.ext_getElem?
  intro j
  have hl : (arr n R).toList.length = n := by rw [Array.length_toList, arr_size]
  rw [List.getElem?_toArray, arr_get, Nat.add_zero, List.length_replicate]
  by_cases h1 : j < i
  · rw [List.append_assoc, List.getElem?_append_left (by rw [List.length_take]; omega), List.getElem?_take, if_pos h1, Array.getElem?_toList, arr_get, if_pos (by omega), if_pos (by omega), if_neg (by omega)]
  · by_cases h2 : j < i + m
    · rw [List.getElem?_append_left (by rw [List.length_append, List.length_take, List.length_replicate]; omega), List.getElem?_append_right (by rw [List.length_take]; omega), List.length_take, hl, Nat.min_eq_left (by omega), List.getElem?_replicate, if_pos (by omega), if_pos (by omega), if_pos (by omega)]
    · rw [List.getElem?_append_right (by rw [List.length_append, List.length_take, List.length_replicate]; omega), List.length_append, List.length_take, List.length_replicate, hl, Nat.min_eq_left (by omega), List.getElem?_drop, show i + m + (j - (i + m)) = j by omega, Array.getElem?_toList, arr_get]
      by_cases h3 : j < n
      · rw [if_pos h3, if_pos h3, if_neg (by omega)]
      · rw [if_neg h3, if_neg h3]
theorem wpl_clear_rows (hw : Region.wanted o (yielded ops a.tmps) = true) (t e : TypeId) (x : Operand) (hop : o.op = .call { callee := .builtin .clear, args := #[x], argTypes := #[t] }) (ht : P.underlying t = some (.slice e))
    (hz : (P.info? e).bind (·.zero) = some (.slice none 0 0)) (g i m c n : Nat) (hx : a.eval x = .slice (some ⟨g, i, none⟩) m c) (R : Nat → Value) (T : TypeId) (hb : Blk w g (arr n R) T) (hm : i + m ≤ n) (hm0 : 0 < m)
    (h : ∀ v, wpList P ops Q rest (a.put o.dst v) (w.setRow g (arr n fun q => if i ≤ q ∧ q < i + m then .slice none 0 0 else R q))) : wpList P ops Q (o :: rest) a w := by
  refine wpl_wanted hw fun K hK => ?_
  obtain ⟨inf, hinf, hz⟩ := Option.bind_eq_some_iff.1 hz
  have hzc : (Builtin.zeroCells (Value.slice none 0 0).cells m).toList = List.replicate m (Value.slice none 0 0) := by
    unfold Builtin.zeroCells
    apply List.ext_getElem?
    intro j
    simp only [Array.toList_map, Array.toList_range, List.getElem?_map, List.getElem?_replicate, Value.cells]
    by_cases hj : j < m
    · rw [List.getElem?_range (by simpa using hj), if_pos hj]
      simp [Nat.mod_one]
    · rw [List.getElem?_eq_none (by simp; omega), if_neg hj]; rfl
  have hr := run_storeCells_at (P := P) g i T (List.replicate m (Value.slice none 0 0)) 0 (arr n R) w hb (by rw [List.length_replicate, arr_size]; omega) (fun v hv => by rw [List.eq_of_mem_replicate hv]; rfl)
  rw [slice_run_cells n i m R hm] at hr
  obtain ⟨k, rfl⟩ : ∃ k, m = k + 1 := ⟨m - 1, by omega⟩
  unfold Oper.wp execOp
  simp [hop, resolve, invoke, builtin, Builtin.clear_, Sem.run_bind, hx, run_underlying ht w, zeroValue, typeInfo, hinf, hz, hzc, hr, Oper.upon]
  exact hK _ _ (h _)
end
theorem cut_of (Z : Nat → Prop) [DecidablePred Z] : ∀ N, (∀ i j, i ≤ j → j < N → Z j → Z i) → ∃ k, k ≤ N ∧ ∀ i, i < N → (Z i ↔ i < k)
  | 0, _ => ⟨0, by omega, fun i h => absurd h (by omega)⟩
  | N + 1, h => by
    by_cases hz : Z N
    · exact ⟨N + 1, by omega, fun i hi => ⟨fun _ => hi, fun _ => h i N (by omega) (by omega) hz⟩⟩
    · obtain ⟨k, hk, hZ⟩ := cut_of Z N fun i j hi hj => h i j hi (by omega)
      refine ⟨k, by omega, fun i hi => ?_⟩
      by_cases e : i = N
      · subst e; exact ⟨fun q => absurd q hz, fun q => by omega⟩
      · exact hZ i (by omega)
theorem Fac.mono {p n : Int} {F : Nat → Int} {N : Nat} {M : MxL} (h : Fac p n F N M) {i j : Nat} (hij : i ≤ j) (hj : j < N) : (monic p (M i i)).length ≤ (monic p (M j j)).length := by
  have hp := h.pr
  obtain ⟨_, e1, _⟩ := monic_ne hp (h.sm.po i i (by omega) (by omega)) (h.sm.piv i (by omega))
  obtain ⟨_, e2, _⟩ := monic_ne hp (h.sm.po j j hj hj) (h.sm.piv j hj)
  have hd := h.sm.div i (by omega) j j ⟨hij, hj⟩ ⟨hij, hj⟩
  obtain ⟨q, hq, e⟩ := hd.list hp (h.sm.po j j hj hj)
  obtain ⟨l1, _, l3⟩ := mulp_len_pos hp hq (h.sm.po i i (by omega) (by omega)) (e ▸ h.sm.piv j hj)
  have := List.length_pos_iff.2 l1
  rw [← e] at l3
  omega
/-- The first place whose factor has a degree. -/
theorem Fac.cut {p n : Int} {F : Nat → Int} {N : Nat} {M : MxL} (h : Fac p n F N M) : ∃ k, k ≤ N ∧ ∀ i, i < N → ((monic p (M i i)).length ≤ 1 ↔ i < k) :=
  cut_of (fun i => (monic p (M i i)).length ≤ 1) N fun i j hij hj h1 => by have := h.mono hij hj; omega
set_option maxHeartbeats 400000 in
theorem low1_any (v : Value) (xs : List Int) (w : World) (h : IsRow w v xs) (z : Bool) (hz : decide (xs.length ≤ 1) = z) :
    Calls Try.prog 74 #[v] w fun e w' => e = .returned (.bool z) ∧ Below w.heap.size w w' := by
  have H1 := Lib.hid (degree_any v xs w h)
  have hz2 : decide ((xs.length : Int) - 1 < 1) = z := by rw [← hz]; apply decide_eq_decide.2; omega
  obtain ⟨a1, m1, c1, rfl⟩ := h.isSlice
  clear h hz
  obtain ⟨L, hL⟩ : ∃ L, (xs.length : Int) = L := ⟨_, rfl⟩
  rw [hL] at H1 hz2
  clear hL
  go_enter Try.func74, Try.ntmps74
  go_wp2_with fail
  refine H1.out.mono ?_
  rintro e u1 h1
  obtain ⟨rfl, hb⟩ := h1
  go_wp2_with fail
  go_ret
  subst hb
  exact ⟨by rw [← hz2]; rfl, Below.refl _ _⟩
def lowF : Value := .func (.func 74) #[] #[]
set_option maxRecDepth 20000 in
set_option maxHeartbeats 1000000 in
theorem indexLow (v : Value) (n k : Nat) (X : Nat → List Int) (w : World) (hn0 : 0 < n) (hn : n ≤ 6) (h : RwL w v n X) (hk : ∀ i, i < n → ((X i).length ≤ 1 ↔ i < k)) :
    Calls Try.prog 89 #[v, lowF] w fun e w' => e = .returned (.int .i64 (if k = 0 then -1 else 0)) ∧ Below w.heap.size w w' := by
  obtain ⟨b, c, R, rfl, q1, r1⟩ := h
  have q1H := Lib.hid q1
  have r1H := Lib.hid r1
  have hkH := Lib.hid hk
  have hnI : (n : Int) ≤ 6 := by omega
  clear q1 r1 hk
  unfold lowF
  go_enter Try.func89, Try.ntmps89
  go_wp2_with fail
  go_loopw [8] (fun vi wr => ∃ j : Nat, j ≤ n ∧ vi = .int .i64 (j : Int) ∧ (k = 0 ∨ j = 0) ∧ Below w.heap.size w wr) (fun vi _ => n - (intOf vi).toNat)
  case atStart => exact ⟨0, by omega, rfl, .inr rfl, Below.refl _ _⟩
  case round =>
    obtain ⟨j, hj, rfl, hkj, hb⟩ := hrel
    rename World => wr
    have hkjH := Lib.hid hkj
    clear hkj
    by_cases hlt : j < n
    · have hltI : (j : Int) < (n : Int) := by omega
      have c0 : wr.cell? ⟨b, j, none⟩ = some (R j) := cell_below (q1H.out j hlt) hb
      have x1 := (r1H.out j hlt).below hb
      by_cases hk0 : k = 0
      · have hd : decide ((X j).length ≤ 1) = false := decide_eq_false fun h => by have := (hkH.out j hlt).1 h; omega
        have H1 := Lib.hid (low1_any (R j) (X j) wr x1 false hd)
        obtain ⟨a1, m1, d1, e1⟩ := x1.isSlice
        rw [e1] at c0 H1
        clear x1 e1 hd
        go_wp2_with fail
        refine H1.out.mono ?_
        rintro e u1 ⟨rfl, hb1⟩
        replace hb := below_step hb hb1
        clear hb1 H1 c0
        go_wp2_with fail
        go_roundw
        case rel => exact ⟨j + 1, by omega, by go_num, .inl hk0, hb⟩
        case measure => simp [intOf] <;> omega
      · obtain rfl : j = 0 := by have := hkjH.out; omega
        have hd : decide ((X 0).length ≤ 1) = true := decide_eq_true ((hkH.out 0 hlt).2 (by omega))
        have H1 := Lib.hid (low1_any (R 0) (X 0) wr x1 true hd)
        obtain ⟨a1, m1, d1, e1⟩ := x1.isSlice
        rw [e1] at c0 H1
        clear x1 e1 hd
        go_wp2_with fail
        refine H1.out.mono ?_
        rintro e u1 ⟨rfl, hb1⟩
        replace hb := below_step hb hb1
        clear hb1 H1 c0
        go_wp2_with fail
        go_ret
        exact ⟨by first | rfl | (rw [if_neg hk0]; rfl), hb⟩
    · obtain rfl : j = n := by omega
      have hk0 : k = 0 := by have := hkjH.out; omega
      go_wp2_with fail
      go_ret
      exact ⟨by first | rfl | (rw [if_pos hk0]; rfl), hb⟩
/-- The list after the first j places have been seen. -/
def shf (k j : Nat) (R : Nat → Value) : Nat → Value := fun q => if q < j - k then R (k + q) else R q
theorem sRowK2 : (Try.prog.info? 55).map (·.size) = some 1 := by kernel_rfl
theorem zRowK2 : (Try.prog.info? 55).bind (·.zero) = some (.slice none 0 0) := by kernel_rfl
theorem uRowsK2 : Try.prog.underlying 49 = some (.slice 55) := by kernel_rfl
set_option maxRecDepth 20000 in
set_option maxHeartbeats 2000000 in
theorem deleteLow (b c n k B : Nat) (R : Nat → Value) (X : Nat → List Int) (w : World) (hn0 : 0 < n) (hn : n ≤ 6) (hnc : n ≤ c) (hB : B ≤ b) (hB2 : B ≤ w.heap.size) (hBlk : Blk w b (arr c R) 55) (hS : ∀ j, ∃ a m q, R j = .slice a m q) (hR : ∀ i, i < n → IsRow w (R i) (X i)) (hkn : k ≤ n) (hk : ∀ i, i < n → ((X i).length ≤ 1 ↔ i < k)) :
    Calls Try.prog 73 #[.slice (some ⟨b, 0, none⟩) n c, lowF] w fun e w' => ∃ v, e = .returned v ∧ RwL w' v (n - k) (fun i => X (k + i)) ∧ Below B w w' := by
  have hBkH := Lib.hid hBlk
  have hSH := Lib.hid hS
  have hRH := Lib.hid hR
  have hkH := Lib.hid hk
  have hcS : w.heap.size > b := hBlk.lt
  have hrw : RwL w (.slice (some ⟨b, 0, none⟩) n c) n X := ⟨b, c, R, rfl, fun i hi => by rw [hBlk.cell]; exact arr_get_lt R (by omega), hR⟩
  have hidx := Lib.hid (indexLow _ n k X w hn0 hn hrw hk)
  have hnI : (n : Int) ≤ 6 := by omega
  clear hS hR hk hrw hBlk
  unfold lowF at *
  go_enter Try.func73, Try.ntmps73
  go_wp2_with fail
  refine hidx.out.mono ?_
  rintro e u1 ⟨rfl, hn1⟩
  have hBlk := hBkH.out.keep hn1
  have hRu := Lib.hid (fun i (hi : i < n) => (hRH.out i hi).below hn1)
  have hb := hn1.mono hB2
  clear hidx hBkH hRH hn1
  by_cases hk0 : k = 0
  · subst hk0
    rw [if_pos rfl]
    go_wp2_with fail
    go_ret
    exact ⟨_, rfl, ⟨b, c, R, rfl, fun i hi => by rw [hBlk.cell]; exact arr_get_lt R (by omega), fun i hi => by show IsRow u1 (R i) (X (0 + i)); rw [Nat.zero_add]; exact hRu.out i hi⟩, hb⟩
  · rw [if_neg hk0]
    go_wp2_with fail
    go_loopw [5, 6] (fun vi vj wr => ∃ j d : Nat, 1 ≤ j ∧ j ≤ n ∧ Hid (d = j - k) ∧ vj = .int .i64 (j : Int) ∧ vi = .int .i64 (d : Int) ∧ Blk wr b (arr c (shf k j R)) 55 ∧ Hid (∀ i, i < n → IsRow wr (R i) (X i)) ∧ Below B w wr) (fun _ vj _ => n - (intOf vj).toNat)
    case atStart => exact ⟨1, 0, by omega, by omega, Lib.hid (by omega), rfl, rfl, by
      rw [show shf k 1 R = R from funext fun q => if_neg (by omega)]; exact hBlk, hRu, hb⟩
    case round =>
      clear hBlk hRu hb
      obtain ⟨j, d, hj1, hj, hd, rfl, rfl, hBlk, hRu, hb⟩ := hrel
      rename World => wr
      by_cases hlt : j < n
      · have hltI : (j : Int) < (n : Int) := by omega
        have c0 : wr.cell? ⟨b, j, none⟩ = some (R j) := by
          rw [hBlk.cell, arr_get_lt _ (by omega)]
          unfold shf; rw [if_neg (by omega)]
        have x1 := hRu.out j hlt
        by_cases hjk : j < k
        · have hdd : decide ((X j).length ≤ 1) = true := decide_eq_true ((hkH.out j hlt).2 hjk)
          have H1 := Lib.hid (low1_any (R j) (X j) wr x1 true hdd)
          obtain ⟨a1, m1, d1, e1⟩ := x1.isSlice
          rw [e1] at c0 H1
          have hBl2 : Blk wr b (arr c (shf k (j + 1) R)) 55 := by
            rw [show shf k (j + 1) R = shf k j R from funext fun q => by unfold shf; rw [if_neg (by omega), if_neg (by omega)]]; exact hBlk
          clear x1 e1 hdd hBlk
          unfold lowF at *
          go_wp2_with fail
          refine H1.out.mono ?_
          rintro e u2 ⟨rfl, hn2⟩
          replace hBl2 := hBl2.keep hn2
          replace hRu := Lib.hid (fun i (hi : i < n) => (hRu.out i hi).below hn2)
          replace hb := hb.trans (hn2.mono (Nat.le_trans hB2 hb.size))
          clear hn2 H1 c0
          go_wp2_with fail
          go_roundw
          case rel => exact ⟨j + 1, d, by omega, by omega, Lib.hid (by have := hd.out; omega), by go_num, rfl, hBl2, hRu, hb⟩
          case measure => simp [intOf] <;> omega
        · have hdd : decide ((X j).length ≤ 1) = false := decide_eq_false fun h => hjk ((hkH.out j hlt).1 h)
          have H1 := Lib.hid (low1_any (R j) (X j) wr x1 false hdd)
          obtain ⟨a1, m1, d1, e1⟩ := x1.isSlice
          rw [e1] at c0 H1
          have hRe := Lib.hid e1
          have hdc : d < c := by have := hd.out; omega
          have hdn : (d : Int) < (n : Int) := by have := hd.out; omega
          clear x1 e1 hdd
          go_wp2_with fail
          refine H1.out.mono ?_
          rintro e u2 ⟨rfl, hn2⟩
          replace hBlk := hBlk.keep hn2
          replace hRu := Lib.hid (fun i (hi : i < n) => (hRu.out i hi).below hn2)
          replace hb := hb.trans (hn2.mono (Nat.le_trans hB2 hb.size))
          have hfin := Lib.hid (show (fun q => if q = d then Value.slice a1 m1 d1 else shf k j R q) = shf k (j + 1) R from funext fun q => by
            have hd' := hd.out
            unfold shf
            by_cases e : q = d
            · rw [if_pos e, if_pos (by omega), show k + q = j by omega, hRe.out]
            · rw [if_neg e]
              by_cases e2 : q < j - k
              · rw [if_pos e2, if_pos (by omega)]
              · rw [if_neg e2, if_neg (by omega)])
          clear hn2 H1 c0
          go_wp2_with ((with_reducible refine wpl_guard ?_); first | (refine wpl_store_arrS rfl 55 _ _ rfl b d rfl (.slice a1 m1 d1) rfl c (shf k j R) 55 hBlk hdc sRowK2 rfl ?_))
          have hg := setRowS_grown u2 b (arr c (shf k (j + 1) R))
          have hS2 : ∀ q, ∃ a m p, shf k j R q = .slice a m p := fun q => by unfold shf; split <;> exact hSH.out _
          have hRu2 := Lib.hid (fun i (hi : i < n) => (hRu.out i hi).grow hBlk (fun q _ => hS2 q) hg)
          have hBl2 := hBlk.setRow_same (cs := arr c (shf k (j + 1) R))
          have hb2 := below_setRow hb hB (arr c (shf k (j + 1) R))
          rw [hfin.out]
          clear hg hS2 hRu hBlk hb hfin
          go_roundw
          case rel => exact ⟨j + 1, d + 1, by omega, by omega, Lib.hid (by have := hd.out; omega), by go_num, by go_num, hBl2, hRu2, hb2⟩
          case measure => simp [intOf] <;> omega
      · have ejn : n = j := by omega
        subst ejn
        have hdk : n - d = k ∧ d + (n - d) ≤ c ∧ d ≤ n := by have := hd.out; omega
        obtain ⟨hd1, hd2, hd3⟩ := hdk
        have hdI : (d : Int) ≤ (n : Int) := by omega
        have hdcI : (d : Int) ≤ (c : Int) := by omega
        have hd1H := Lib.hid hd1
        have hcd : ¬ c = d := by have := hd1H.out; omega
        clear hd1
        go_wp2_with ((with_reducible refine wpl_guard ?_); first | (refine wpl_clear_rows rfl 49 55 _ rfl uRowsK2 zRowK2 b d (n - d) (c - d) c rfl (shf k n R) 55 hBlk hd2 (by have := hd1H.out; omega) ?_; intro v9))
        have hS2 : ∀ q, ∃ a m p, shf k n R q = .slice a m p := fun q => by unfold shf; split <;> exact hSH.out _
        have hRw2 : RwL (wr.setRow b (arr c fun q => if d ≤ q ∧ q < n then .slice none 0 0 else shf k n R q)) (.slice (some ⟨b, 0, none⟩) d c) d (fun i => X (k + i)) :=
          ⟨b, c, fun q => if d ≤ q ∧ q < n then .slice none 0 0 else shf k n R q, rfl, fun i hi => by rw [(hBlk.setRow_same (cs := arr c fun q => if d ≤ q ∧ q < n then .slice none 0 0 else shf k n R q)).cell]; exact arr_get_lt _ (by omega), fun i hi => by
            have e : (if d ≤ i ∧ i < n then Value.slice none 0 0 else shf k n R i) = R (k + i) := by
              rw [if_neg (by omega)]; unfold shf; rw [if_pos (by have := hd.out; omega)]
            show IsRow _ (if d ≤ i ∧ i < n then Value.slice none 0 0 else shf k n R i) (X (k + i))
            rw [e]
            exact (hRu.out (k + i) (by have := hd.out; omega)).grow hBlk (fun q _ => hS2 q) (setRowS_grown _ _ _)⟩
        go_ret
        exact ⟨_, rfl, by rw [← hd.out]; exact hRw2, below_setRow hb hB _⟩
theorem Fac.facs {p n : Int} {F : Nat → Int} {N : Nat} {M : MxL} (h : Fac p n F N M) {k : Nat} (hkn : k ≤ N) (hk : ∀ i, i < N → ((monic p (M i i)).length ≤ 1 ↔ i < k)) (v : Value) (w : World) (hv : IsRows w v N (sqM F)) :
    Calls Try.prog 40 #[.int .i64 p, v] w fun e w' => ∃ v', e = .returned v' ∧ RwL w' v' (N - k) (fun i => monic p (M (k + i) (k + i))) ∧ Below w.heap.size w w' := by
  have hinv := Lib.hid (h.invs v w hv)
  have hN0 := h.pos
  have hN6 := h.le
  have hkH := Lib.hid hk
  obtain ⟨Rs, oa, cap, rfl, _⟩ := hv
  clear h hk
  go_enter Try.func40, Try.ntmps40
  go_wp2_with fail
  refine hinv.out.mono ?_
  rintro e u1 ⟨b, c, R, rfl, hB, hL, hR, hn⟩
  rcases hL with ⟨h0, _⟩ | ⟨b', c', h1, h2, h3, h4, h5, h6⟩
  · simp at h0
  simp only [Value.slice.injEq, Option.some.injEq, Addr.mk.injEq, and_true, true_and] at h1
  obtain ⟨rfl, rfl⟩ := h1
  have hdel := Lib.hid (deleteLow b c N k w.heap.size R (fun i => monic p (M i i)) u1 hN0 hN6 h3 hB hn.size h5 h6 hR hkn hkH.out)
  clear h5 h6 hR hinv
  unfold lowF at hdel
  go_wp2_with fail
  refine hdel.out.mono ?_
  rintro e u2 ⟨v2, rfl, hv2, hn2⟩
  replace hn := hn.trans hn2
  clear hdel hn2
  go_wp2_with fail
  go_ret
  exact ⟨_, rfl, hv2, hn⟩
end Go.Proofs.Ytnkkkgaojhkniab
