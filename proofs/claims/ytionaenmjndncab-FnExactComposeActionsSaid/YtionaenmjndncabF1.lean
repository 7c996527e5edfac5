/- Walks: the binomials of a polynomial, the program's side. -/
import Derived.Test.YtionaenmjndncabAcnQ
import Derived.Test.YtionaenmjndncabRB
import Derived.Test.YtionaenmjndncabInv8
import Derived.Test.YtionaenmjndncabE8
set_option linter.unusedVariables false
set_option linter.unusedSimpArgs false
namespace Go.Proofs.Ytionaenmjndncab
open Go.RowKit
theorem uRowsT : Try.prog.underlying 57 = some (.slice 48) := by kernel_rfl
theorem uRowT1 : Try.prog.underlying 48 = some (.slice 2) := by kernel_rfl
theorem sRowT1 : (Try.prog.info? 48).map (·.size) = some 1 := by kernel_rfl
theorem zInt1 : (Try.prog.info? 2).bind (·.zero) = some (.int .i64 0) := by kernel_rfl
theorem iRowT1 : (Try.prog.info? 48).map (fun i => (i.zero, i.size, i.bytes)) = some (some (.slice none 0 0), 1, 24) := by kernel_rfl
set_option maxRecDepth 20000 in
set_option maxHeartbeats 4000000 in
theorem actions_any (va : Value) (xs : List Int) (p : Int) (P : Nat) (w : World) (hp : Pr p) (hP : p = P) (ha : IsRow w va xs) (hxa : Po p xs) (hl : xs.length ≤ 7) :
    Calls Try.prog 38 #[.int .i64 p, va] w fun e w' => ∃ v R, e = .returned v ∧ RwB w' w.heap.size 48 v xs.length R (acH p P xs) ∧ Below w.heap.size w w' := by
  have hp2 := hp.pos
  obtain ⟨hP2l, hP7⟩ := pow7 hp hP
  have spH := Lib.hid (fun (j : Nat) (hj : j ≤ 5) va w (h : IsRow w va [0, 1]) => by
    have h1 := spread_any va [0, 1] p P j (P ^ j) w hp hP rfl (by omega) h (by simp)
    rw [sprd_tpow (Nat.pow_pos (by omega))] at h1
    exact h1)
  have hpH := Lib.hid hp
  have hxP := Lib.hid hxa
  obtain ⟨oa1, ca, rfl, _, _, hca⟩ := ha
  have hcaH := Lib.hid hca
  have hLe := hl
  have hacH := Lib.hid (fun (ys : List Int) (hy : Po p ys) (hl : ys.length ≤ 7) i => acH_small hp hP hy hl i)
  have hP' := hP
  clear hp hxa hca hl hP
  have hTop := Lib.hid (fun (h : 0 < xs.length) => by have := acH_exact hpH.out hP' hxP.out (xs.length - 1) (by omega); rw [Nat.sub_self, Nat.zero_mul] at this; exact this)
  clear hP'
  obtain ⟨L, hL⟩ : ∃ L, xs.length = L := ⟨_, rfl⟩
  rw [hL] at hcaH hLe hTop ⊢
  have hLH := Lib.hid hL
  clear hL
  go_enter Try.func38, Try.ntmps38
  go_wp2_with fail
  go_loopw [5, 6] (fun vo i wr => ∃ (k : Nat) (R : Nat → Value), k ≤ L ∧ i = .int .i64 ((k : Int) - 1) ∧ Hid (RwB wr w.heap.size 48 vo (L - k) R (acH p P (xs.drop k))) ∧ Below w.heap.size w wr) (fun _ i _ => (intOf i + 1).toNat)
  case atStart => exact ⟨L, fun _ => .slice none 0 0, Nat.le_refl _, rfl, by rw [Nat.sub_self]; exact Lib.hid (RwB.nil _ _ _ _ _), Below.refl _ _⟩
  case round =>
    obtain ⟨k, R, hk, hi, hRB, hb⟩ := hrel
    by_cases h0 : k = 0
    · subst h0
      simp only [Int.natCast_zero, Int.zero_sub] at hi
      subst hi
      rw [Nat.sub_zero, List.drop_zero] at hRB
      obtain ⟨⟨oa, rfl, hOO⟩, hRr⟩ := hRB.out
      have hROW := Lib.hid (fun i (hi : i < L) => hRr i hi)
      by_cases hL0 : L = 0
      · subst hL0
        clear hRB hOO hRr
        go_wp2_with fail
        go_loopw [5] (fun v wq => v = .slice oa 0 0 ∧ wq = wr) (fun _ _ => 0)
        case atStart => exact ⟨rfl, rfl⟩
        case round =>
          obtain ⟨rfl, rfl⟩ := hrel
          go_wp2_with fail
          go_ret
          exact ⟨_, R, rfl, ⟨⟨oa, rfl, fun h => absurd h (by omega)⟩, hROW.out⟩, hb⟩
      · have hLp : 0 < L := Nat.pos_of_ne_zero hL0
        have eix : ((L : Int) - 1) = ((L - 1 : Nat) : Int) := by omega
        have hlt : L - 1 < L := by omega
        obtain ⟨gO, rfl, hgO, hO⟩ := hOO hLp
        obtain ⟨a1, c1, hsl, _⟩ := hRr (L - 1) hlt
        rw [hTop.out hLp] at hsl
        have c0 : wr.cell? ⟨gO, L - 1, none⟩ = some (.slice a1 1 c1) := by rw [hO.cell, arr_get_lt R hlt, hsl]
        have hOH := Lib.hid hO
        have hgOH := Lib.hid hgO
        clear hRB hOO hRr hsl hO hgO
        go_wp2_with fail
        go_loopw [5] (fun v wq => v = .slice (some ⟨gO, 0, none⟩) L L ∧ wq = wr) (fun _ _ => 0)
        case atStart => exact ⟨rfl, rfl⟩
        case round =>
          obtain ⟨rfl, rfl⟩ := hrel
          go_wp2_with fail
          go_ret
          exact ⟨_, R, rfl, ⟨⟨_, rfl, fun _ => ⟨gO, rfl, hgOH.out, hOH.out⟩⟩, hROW.out⟩, hb⟩
    · obtain ⟨m, rfl⟩ : ∃ m, k = m + 1 := ⟨k - 1, by omega⟩
      rw [show (((m + 1 : Nat) : Int) - 1) = (m : Int) by omega] at hi
      subst hi
      obtain ⟨n0, hn0⟩ : ∃ n0, L - (m + 1) = n0 := ⟨_, rfl⟩
      rw [hn0] at hRB
      have hn6 : n0 ≤ 6 := by omega
      have hLm : L - m = n0 + 1 := by omega
      obtain ⟨⟨oa, rfl, hOO⟩, hRr⟩ := hRB.out
      obtain ⟨M, hM⟩ : ∃ M, acH p P (xs.drop (m + 1)) = M := ⟨_, rfl⟩
      obtain ⟨M', hM'⟩ : ∃ M', acH p P (xs.drop m) = M' := ⟨_, rfl⟩
      have hMs := Lib.hid (fun i => by have := acH_step (p := p) P xs m (by have := hLH.out; omega) i; rw [hM, hM'] at this; exact this : ∀ i, M' (i + 1) = addp p (mulp p (tpow (P ^ (i + 1))) (M (i + 1))) (M i) 1)
      have hMz := Lib.hid (by have := acH_zero (p := p) P xs m (by have := hLH.out; omega); rw [hM, hM'] at this; exact this : M' 0 = addp p (mulp p (tpow (P ^ 0)) (M 0)) [cf xs m] 1)
      have hyP := Po_drop (by omega) hxP.out (m + 1)
      have hyl : (xs.drop (m + 1)).length = n0 := by rw [List.length_drop, hLH.out]; exact hn0
      have hMn := Lib.hid (fun i (hi : n0 ≤ i) => by have := acH_nil hp2.1 P (xs.drop (m + 1)) i (by omega); rw [hM] at this; exact this : ∀ i, n0 ≤ i → M i = [])
      have hMl := Lib.hid (fun i => by have := hacH.out (xs.drop (m + 1)) hyP (by omega) i; rw [hM] at this; exact this : ∀ i, (M i).length ≤ 17001)
      have hMP := Lib.hid (fun i => by have := acH_Po hp2.1 P (xs.drop (m + 1)) i; rw [hM] at this; exact this : ∀ i, Po p (M i))
      rw [hM] at hRr hRB
      have tmH := Lib.hid (fun (j : Nat) (hj : j ≤ 5) va vb w (h1 : IsRow w va (tpow (P ^ j))) (h2 : IsRow w vb (M j)) =>
        times_any va vb (tpow (P ^ j)) (M j) p w hpH.out h1 h2 (tpow_Po hp2.1 _).md (hMP.out j).md (by have := P_small hP7 hj; rw [tpow_len]; omega) (by have := hMl.out j; omega))
      have hml : ∀ j, j ≤ 6 → (mulp p (tpow (P ^ j)) (M j)).length ≤ 1000000 := fun j hj => by
        have h1 := mulp_length_le p (tpow (P ^ j)) (M j)
        have h2 := hMl.out j
        have h3 : P ^ j ≤ 7 ^ 6 := Nat.le_trans (Nat.pow_le_pow_left hP7 j) (Nat.pow_le_pow_right (by omega) hj)
        rw [tpow_len] at h1
        omega
      have cmH := Lib.hid (fun (j : Nat) (hj : j + 1 ≤ 6) va vb w (h1 : IsRow w va (mulp p (tpow (P ^ (j + 1))) (M (j + 1)))) (h2 : IsRow w vb (M j)) => by
        have h3 := combine_any va vb _ _ p 1 w hpH.out h1 h2 (mulp_Po (by omega) _ _).md (hMP.out j).md (by decide) (by decide) (by have := hml (j + 1) hj; omega) (by have := hMl.out j; omega)
        rw [← hMs.out j] at h3
        exact h3)
      have cm0 := Lib.hid (fun va vb w (h1 : IsRow w va (mulp p (tpow (P ^ 0)) (M 0))) (h2 : IsRow w vb [cf xs m]) => by
        have h3 := combine_any va vb _ _ p 1 w hpH.out h1 h2 (mulp_Po (by omega) _ _).md (fun i => by
          by_cases e : i = 0
          · subst e; exact hxP.out.md m
          · rw [cf_ge _ _ (by simp; omega)]; omega) (by decide) (by decide) (by have := hml 0 (by omega); omega) (by simp)
        rw [← hMz.out] at h3
        exact h3)
      obtain ⟨mid, hmd0, hmdS⟩ : ∃ mid : Nat → List Int, mid 0 = mulp p (tpow (P ^ 0)) (M 0) ∧ ∀ i, mid (i + 1) = M' (i + 1) := ⟨fun i => match i with | 0 => mulp p (tpow (P ^ 0)) (M 0) | i + 1 => M' (i + 1), rfl, fun _ => rfl⟩
      have hmd0H := Lib.hid hmd0
      have hmdSH := Lib.hid hmdS
      have hm0n := Lib.hid (fun i (hi : n0 ≤ i) => (by rw [hMn.out i hi, mulp_nilR (by omega)] : mulp p (tpow (P ^ i)) (M i) = []))
      obtain ⟨b1, off1, rfl, hcx⟩ := hcaH.out (by omega)
      have hcm1 := Lib.hid (hcx m (by omega))
      have hbl1 : b1 < w.heap.size := block_lt_of_cell (hcx m (by omega))
      rename World => w0
      obtain ⟨gO, hgO⟩ : ∃ gO, 0 < n0 → oa = some ⟨gO, 0, none⟩ ∧ w.heap.size ≤ gO ∧ Blk w0 gO (arr n0 R) 48 := by
        by_cases h : 0 < n0
        · obtain ⟨g, h1⟩ := hOO h
          exact ⟨g, fun _ => h1⟩
        · exact ⟨0, fun h2 => absurd h2 h⟩
      have hgOH := Lib.hid hgO
      have hgN := hb.size
      have hRrH := Lib.hid hRr
      have hM2H := Lib.hid hM'
      clear hM hM' hOO hRr hRB hmd0 hmdS hyP hml hcx hgO hacH hn0 hyl
      go_wp2_with (refine wpl_make_any rfl 57 48 _ _ rfl (.slice none 0 0) 24 (by decide) uRowsT iRowT1 rfl .i64 .i64 _ _ (n0 + 1) rfl rfl (by omega) (by omega) (by omega) ?_)
      have hNew := Blk.new w0 (arr (n0 + 1) fun _ => .slice none 0 0) 48
      have hbA := hb.alloc hgN (.cells (arr (n0 + 1) fun _ => .slice none 0 0) 48)
      have hRA := Lib.hid (fun q (hq : q < n0) => (hRrH.out q hq).below (below_new _ (.cells (arr (n0 + 1) fun _ => .slice none 0 0) 48)))
      have hOA := Lib.hid (fun (h : 0 < n0) => ((hgOH.out h).2.2.alloc (.cells (arr (n0 + 1) fun _ => .slice none 0 0) 48)))
      have hOl : 0 < n0 → gO < w0.heap.size := fun h => (hgOH.out h).2.2.lt
      have hOe := Lib.hid (fun (h : 0 < n0) => (hgOH.out h).1)
      clear hRrH hgOH hb
      go_loopw [22] (fun i wq => ∃ (j : Nat) (NN : Nat → Value), j ≤ n0 + 1 ∧ i = .int .i64 (j : Int) ∧ Blk wq w0.heap.size (arr (n0 + 1) NN) 48 ∧ (∀ q, ∃ a m c, NN q = .slice a m c) ∧ (∀ q, j ≤ q → NN q = .slice none 0 0) ∧
        Hid (∀ q, q < j → IsRow wq (NN q) (mid q)) ∧ Hid (∀ q, q < n0 → IsRow wq (R q) (M q)) ∧ (0 < n0 → Blk wq gO (arr n0 R) 48) ∧ Below w.heap.size w wq) (fun i _ => n0 + 1 - (intOf i).toNat)
      case atStart => exact ⟨0, fun _ => .slice none 0 0, by omega, rfl, hNew, fun _ => ⟨_, _, _, rfl⟩, fun _ _ => rfl, Lib.hid fun q hq => absurd hq (by omega), hRA, hOA.out, hbA⟩
      case round =>
        clear hNew hbA hRA hOA
        obtain ⟨j, NN, hj, rfl, hN, hNs, hNz, hP, hR, hOx, hb⟩ := hrel
        by_cases hjn : j < n0 + 1
        · cases j with
          | zero =>
            by_cases hn : 0 < n0
            · obtain rfl := hOe.out hn
              have hO := hOx hn
              have hOl2 := hOl hn
              clear hOx hOl
              go_wp2_with fail
              go_upto_region 10 with (fail)
              refine gen_last (w := _) (by kernel_rfl) (by kernel_rfl) (by kernel_rfl) 13 (by kernel_rfl)
                  (fun i => ([fun zv _ => zv = .slice (some ⟨w0.heap.size, 0, none⟩) (n0 + 1) (n0 + 1), fun zv _ => zv = .int .i64 ((0 : Nat) : Int), fun zv _ => zv = .int .i64 p, fun zv _ => zv = .int .i64 p, fun v w => IsRow w v ([0, 1]), fun zv _ => zv = .int .i64 ((0 : Nat) : Int), fun v w => IsRow w v (tpow (P ^ (0))), fun zv _ => zv = .slice (some ⟨gO, 0, none⟩) (n0) (n0), fun zv _ => zv = .int .i64 ((0 : Nat) : Int), fun zv _ => zv = .pointer (some ⟨gO, 0, none⟩), fun zv _ => zv = (R (0)), fun v w => IsRow w v (mulp p (tpow (P ^ (0))) (M (0))), fun zv _ => zv = .pointer (some ⟨w0.heap.size, 0, none⟩), fun _ _ => True] : List (Value → World → Prop)).getD i (fun _ _ => True))
                  (fun w' => True) trivial (fun w1 w2 h hb => trivial) ?_ ?_ ?_
              · intro i v w1 w2 h hb
                rcases i with _|_|_|_|_|_|_|_|_|_|_|_|_|_|i
                · exact h
                · exact h
                · exact h
                · exact h
                · exact (show IsRow w1 v ([0, 1]) from h).below hb
                · exact h
                · exact (show IsRow w1 v (tpow (P ^ (0))) from h).below hb
                · exact h
                · exact h
                · exact h
                · exact h
                · exact (show IsRow w1 v (mulp p (tpow (P ^ (0))) (M (0))) from h).below hb
                · exact h
                · exact h
                · exact h
              · intro i o ho hiZ a w2 hBl hSx hrd hpar
                rcases i with _|_|_|_|_|_|_|_|_|_|_|_|_|_|i
                · obtain rfl := Option.some.inj ho
                  refine .inl ⟨rfl, ?_⟩
                  have e7 : a.eval (.tmp 7) = .slice (some ⟨w0.heap.size, 0, none⟩) (n0 + 1) (n0 + 1) := hpar 7 _ (by kernel_rfl) (by kernel_rfl)
                  exact wpv_of (wp_move _ _ rfl e7) (fun _ _ => rfl)
                · obtain rfl := Option.some.inj ho
                  refine .inl ⟨rfl, ?_⟩
                  have e8 : a.eval (.tmp 8) = .int .i64 ((0 : Nat) : Int) := hpar 8 _ (by kernel_rfl) (by kernel_rfl)
                  exact wpv_of (wp_move _ _ rfl e8) (fun _ _ => rfl)
                · obtain rfl := Option.some.inj ho
                  refine .inl ⟨rfl, ?_⟩
                  have e0 : a.eval (.tmp 0) = .int .i64 p := hpar 0 _ (by kernel_rfl) (by kernel_rfl)
                  exact wpv_of (wp_move _ _ rfl e0) (fun _ _ => rfl)
                · obtain rfl := Option.some.inj ho
                  refine .inl ⟨rfl, ?_⟩
                  have e0 : a.eval (.tmp 0) = .int .i64 p := hpar 0 _ (by kernel_rfl) (by kernel_rfl)
                  exact wpv_of (wp_move _ _ rfl e0) (fun _ _ => rfl)
                · obtain rfl := Option.some.inj ho
                  refine .inl ⟨rfl, ?_⟩
                  exact wpv_call 74 [] _ rfl [] (by simp only [List.map_cons, List.map_nil, ]) Try.call74 (letter_any w2)
                · obtain rfl := Option.some.inj ho
                  refine .inl ⟨rfl, ?_⟩
                  have e8 : a.eval (.tmp 8) = .int .i64 ((0 : Nat) : Int) := hpar 8 _ (by kernel_rfl) (by kernel_rfl)
                  exact wpv_of (wp_move _ _ rfl e8) (fun _ _ => rfl)
                · obtain rfl := Option.some.inj ho
                  refine .inl ⟨rfl, ?_⟩
                  have e32 : a.eval (.tmp 32) = .int .i64 p := hrd 3 _ 32 rfl rfl (by kernel_rfl) (by kernel_rfl)
                  have h33 : (fun v w => IsRow w v ([0, 1])) (a.eval (.tmp 33)) w2 := hrd 4 _ 33 rfl rfl (by kernel_rfl) (by kernel_rfl)
                  generalize e33 : a.eval (.tmp 33) = v33 at h33
                  have e34 : a.eval (.tmp 34) = .int .i64 ((0 : Nat) : Int) := hrd 5 _ 34 rfl rfl (by kernel_rfl) (by kernel_rfl)
                  exact wpv_call 54 [.tmp 32, .tmp 33, .tmp 34] _ rfl [.int .i64 p, v33, .int .i64 ((0 : Nat) : Int)] (by simp only [List.map_cons, List.map_nil, e32, e33, e34]) Try.call54 (spH.out (0) (by omega) _ w2 h33)
                · obtain rfl := Option.some.inj ho
                  refine .inl ⟨rfl, ?_⟩
                  have e5 : a.eval (.tmp 5) = .slice (some ⟨gO, 0, none⟩) (n0) (n0) := hpar 5 _ (by kernel_rfl) (by kernel_rfl)
                  exact wpv_of (wp_move _ _ rfl e5) (fun _ _ => rfl)
                · obtain rfl := Option.some.inj ho
                  refine .inl ⟨rfl, ?_⟩
                  have e8 : a.eval (.tmp 8) = .int .i64 ((0 : Nat) : Int) := hpar 8 _ (by kernel_rfl) (by kernel_rfl)
                  exact wpv_of (wp_move _ _ rfl e8) (fun _ _ => rfl)
                · obtain rfl := Option.some.inj ho
                  refine .inl ⟨rfl, ?_⟩
                  have e36 : a.eval (.tmp 36) = .slice (some ⟨gO, 0, none⟩) (n0) (n0) := hrd 7 _ 36 rfl rfl (by kernel_rfl) (by kernel_rfl)
                  have e37 : a.eval (.tmp 37) = .int .i64 ((0 : Nat) : Int) := hrd 8 _ 37 rfl rfl (by kernel_rfl) (by kernel_rfl)
                  exact wpv_of (wp_index_row1 57 48 _ _ rfl uRowsT sRowT1 (gO) (n0) (n0) (0) .i64 e36 e37 (by omega)) (fun _ _ => rfl)
                · obtain rfl := Option.some.inj ho
                  refine .inl ⟨rfl, ?_⟩
                  have e38 : a.eval (.tmp 38) = .pointer (some ⟨gO, 0, none⟩) := hrd 9 _ 38 rfl rfl (by kernel_rfl) (by kernel_rfl)
                  exact wpv_of (wp_load_slice 48 2 _ rfl _ e38 uRowT1 _ (by rw [(hO.keep hBl).cell]; exact arr_get_lt R (show 0 < n0 by omega))) (fun _ _ => rfl)
                · obtain rfl := Option.some.inj ho
                  refine .inl ⟨rfl, ?_⟩
                  have e31 : a.eval (.tmp 31) = .int .i64 p := hrd 2 _ 31 rfl rfl (by kernel_rfl) (by kernel_rfl)
                  have h35 : (fun v w => IsRow w v (tpow (P ^ (0)))) (a.eval (.tmp 35)) w2 := hrd 6 _ 35 rfl rfl (by kernel_rfl) (by kernel_rfl)
                  generalize e35 : a.eval (.tmp 35) = v35 at h35
                  have e39 : a.eval (.tmp 39) = (R (0)) := hrd 10 _ 39 rfl rfl (by kernel_rfl) (by kernel_rfl)
                  exact wpv_call 53 [.tmp 31, .tmp 35, .tmp 39] _ rfl [.int .i64 p, v35, (R (0))] (by simp only [List.map_cons, List.map_nil, e31, e35, e39]) Try.call53 (tmH.out (0) (by omega) _ _ w2 h35 ((hR.out (0) (by omega)).below hBl))
                · obtain rfl := Option.some.inj ho
                  refine .inl ⟨rfl, ?_⟩
                  have e29 : a.eval (.tmp 29) = .slice (some ⟨w0.heap.size, 0, none⟩) (n0 + 1) (n0 + 1) := hrd 0 _ 29 rfl rfl (by kernel_rfl) (by kernel_rfl)
                  have e30 : a.eval (.tmp 30) = .int .i64 ((0 : Nat) : Int) := hrd 1 _ 30 rfl rfl (by kernel_rfl) (by kernel_rfl)
                  exact wpv_of (wp_index_row1 57 48 _ _ rfl uRowsT sRowT1 (w0.heap.size) (n0 + 1) (n0 + 1) (0) .i64 e29 e30 (by omega)) (fun _ _ => rfl)
                · obtain rfl := Option.some.inj ho
                  exact absurd rfl hiZ
                · simp at ho
              intro oZ hoZ vals xE hBx hSx hc0
              obtain rfl := Option.some.inj hoZ
              clear hoZ
              have e0 : vals 0 = .slice (some ⟨w0.heap.size, 0, none⟩) (n0 + 1) (n0 + 1) := hc0 0 (by simp) (by decide)
              have e1 : vals 1 = .int .i64 ((0 : Nat) : Int) := hc0 1 (by simp) (by decide)
              have e2 : vals 2 = .int .i64 p := hc0 2 (by simp) (by decide)
              have e3 : vals 3 = .int .i64 p := hc0 3 (by simp) (by decide)
              have cE4 : (fun v w => IsRow w v ([0, 1])) (vals 4) xE := hc0 4 (by simp) (by decide)
              generalize ev4 : vals 4 = uE4 at cE4
              have e5 : vals 5 = .int .i64 ((0 : Nat) : Int) := hc0 5 (by simp) (by decide)
              have cE6 : (fun v w => IsRow w v (tpow (P ^ (0)))) (vals 6) xE := hc0 6 (by simp) (by decide)
              generalize ev6 : vals 6 = uE6 at cE6
              have e7 : vals 7 = .slice (some ⟨gO, 0, none⟩) (n0) (n0) := hc0 7 (by simp) (by decide)
              have e8 : vals 8 = .int .i64 ((0 : Nat) : Int) := hc0 8 (by simp) (by decide)
              have e9 : vals 9 = .pointer (some ⟨gO, 0, none⟩) := hc0 9 (by simp) (by decide)
              have e10 : vals 10 = (R (0)) := hc0 10 (by simp) (by decide)
              have cE11 : (fun v w => IsRow w v (mulp p (tpow (P ^ (0))) (M (0)))) (vals 11) xE := hc0 11 (by simp) (by decide)
              generalize ev11 : vals 11 = uE11 at cE11
              have e12 : vals 12 = .pointer (some ⟨w0.heap.size, 0, none⟩) := hc0 12 (by simp) (by decide)
              refine ⟨rfl, ?_⟩
              simp only [List.length_cons, List.length_nil, Nat.zero_add, Nat.reduceAdd, List.replicate, seenAll, Bool.false_eq_true, if_false, putAll, if_true, Act.put, List.setIfInBounds_toArray, List.set_cons_zero, List.set_cons_succ, e0, e1, e2, e3, ev4, e5, ev6, e7, e8, e9, e10, ev11, e12]
              replace hN := hN.keep hBx
              replace hO := hO.keep hBx
              replace hb := below_step hb hBx
              clear hc0 hSx e0 e1 e2 e3 ev4 e5 ev6 e7 e8 e9 e10 ev11 e12
              have hM1 := show IsRow xE uE11 (mulp p (tpow (P ^ (0))) (M (0))) from cE11
              clear cE4 cE6 cE11
              have hR2 := Lib.hid (fun q (hq : q < n0) => ((hR.out q hq).below hBx).setB hN (fun q _ => hNs q) (arr (n0 + 1) (fun q => if q = 0 then uE11 else NN q)))
              have hP2 := Lib.hid (fun q (hq : q < (0)) => ((hP.out q hq).below hBx).setB hN (fun q _ => hNs q) (arr (n0 + 1) (fun q => if q = 0 then uE11 else NN q)))
              clear hBx hR
              have hsm := hM1.isSlice
              refine wp_store_arrN 48 _ _ rfl (w0.heap.size) (0) rfl uE11 rfl (n0 + 1) NN _ hN (by omega) sRowT1 (slice_one hsm) ?_
              have hM2 := Lib.hid (hM1.setB hN (fun q _ => hNs q) (arr (n0 + 1) (fun q => if q = 0 then uE11 else NN q)))
              have hNx := hN.setRow_same (cs := arr (n0 + 1) (fun q => if q = 0 then uE11 else NN q))
              have hO2 := hO.setRow_other (g := w0.heap.size) (cs := arr (n0 + 1) (fun q => if q = 0 then uE11 else NN q)) (by omega)
              clear hO
              have hb2 := below_setRow hb (g := w0.heap.size) hgN (arr (n0 + 1) (fun q => if q = 0 then uE11 else NN q))
              obtain ⟨N2, hNN⟩ : ∃ f : Nat → Value, (fun q => if q = 0 then uE11 else NN q) = f := ⟨_, rfl⟩
              rw [hNN] at hR2 hP2 hM2 hNx hb2 hO2 ⊢
              have hNJ : N2 (0) = uE11 := by rw [← hNN]; exact if_pos rfl
              have hNo : ∀ q, q ≠ 0 → N2 q = NN q := fun q hq => by rw [← hNN]; exact if_neg hq
              have hNs2 : ∀ q, ∃ a m c, N2 q = .slice a m c := fun q => by
                by_cases e : q = 0
                · rw [e, hNJ]; exact hsm
                · rw [hNo q e]; exact hNs q
              clear hNN hM1 hN hb
              generalize World.setRow xE (w0.heap.size) (arr (n0 + 1) N2) = vE at *
              rw [← hNJ] at hM2
              go_wp2_with fail
              go_roundw
              case rel =>
                refine ⟨0 + 1, N2, by omega, by go_num, hNx, hNs2, fun q hq => ?_, Lib.hid fun q hq => ?_, hR2, fun h => ?_, hb2⟩
                · rw [hNo q (by omega)]; exact hNz q (by omega)
                · obtain rfl : q = 0 := by omega
                  rw [hmd0H.out]; exact hM2.out
                · exact hO2
              case measure => simp [intOf] <;> omega
            · go_wp2_with fail
              go_wp2_with fail
              go_roundw
              case rel =>
                refine ⟨0 + 1, NN, by omega, by go_num, hN, hNs, fun q hq => ?_, Lib.hid fun q hq => ?_, hR, fun h => ?_, hb⟩
                · exact hNz q (by omega)
                · obtain rfl : q = 0 := by omega
                  rw [hmd0H.out, hm0n.out 0 (by omega), hNz 0 (by omega)]; exact IsRow_nil _
                · exact absurd h hn
              case measure => simp [intOf] <;> omega
          | succ j =>
            have hn : 0 < n0 := by omega
            obtain rfl := hOe.out hn
            have hO := hOx hn
            have hOl2 := hOl hn
            clear hOx hOl
            by_cases hj2 : j + 1 < n0
            · go_wp2_with fail
              go_upto_region 10 with (fail)
              refine gen_last (w := _) (by kernel_rfl) (by kernel_rfl) (by kernel_rfl) 13 (by kernel_rfl)
                  (fun i => ([fun zv _ => zv = .slice (some ⟨w0.heap.size, 0, none⟩) (n0 + 1) (n0 + 1), fun zv _ => zv = .int .i64 ((j + 1 : Nat) : Int), fun zv _ => zv = .int .i64 p, fun zv _ => zv = .int .i64 p, fun v w => IsRow w v ([0, 1]), fun zv _ => zv = .int .i64 ((j + 1 : Nat) : Int), fun v w => IsRow w v (tpow (P ^ (j + 1))), fun zv _ => zv = .slice (some ⟨gO, 0, none⟩) (n0) (n0), fun zv _ => zv = .int .i64 ((j + 1 : Nat) : Int), fun zv _ => zv = .pointer (some ⟨gO, j + 1, none⟩), fun zv _ => zv = (R (j + 1)), fun v w => IsRow w v (mulp p (tpow (P ^ (j + 1))) (M (j + 1))), fun zv _ => zv = .pointer (some ⟨w0.heap.size, j + 1, none⟩), fun _ _ => True] : List (Value → World → Prop)).getD i (fun _ _ => True))
                  (fun w' => True) trivial (fun w1 w2 h hb => trivial) ?_ ?_ ?_
              · intro i v w1 w2 h hb
                rcases i with _|_|_|_|_|_|_|_|_|_|_|_|_|_|i
                · exact h
                · exact h
                · exact h
                · exact h
                · exact (show IsRow w1 v ([0, 1]) from h).below hb
                · exact h
                · exact (show IsRow w1 v (tpow (P ^ (j + 1))) from h).below hb
                · exact h
                · exact h
                · exact h
                · exact h
                · exact (show IsRow w1 v (mulp p (tpow (P ^ (j + 1))) (M (j + 1))) from h).below hb
                · exact h
                · exact h
                · exact h
              · intro i o ho hiZ a w2 hBl hSx hrd hpar
                rcases i with _|_|_|_|_|_|_|_|_|_|_|_|_|_|i
                · obtain rfl := Option.some.inj ho
                  refine .inl ⟨rfl, ?_⟩
                  have e7 : a.eval (.tmp 7) = .slice (some ⟨w0.heap.size, 0, none⟩) (n0 + 1) (n0 + 1) := hpar 7 _ (by kernel_rfl) (by kernel_rfl)
                  exact wpv_of (wp_move _ _ rfl e7) (fun _ _ => rfl)
                · obtain rfl := Option.some.inj ho
                  refine .inl ⟨rfl, ?_⟩
                  have e8 : a.eval (.tmp 8) = .int .i64 ((j + 1 : Nat) : Int) := hpar 8 _ (by kernel_rfl) (by kernel_rfl)
                  exact wpv_of (wp_move _ _ rfl e8) (fun _ _ => rfl)
                · obtain rfl := Option.some.inj ho
                  refine .inl ⟨rfl, ?_⟩
                  have e0 : a.eval (.tmp 0) = .int .i64 p := hpar 0 _ (by kernel_rfl) (by kernel_rfl)
                  exact wpv_of (wp_move _ _ rfl e0) (fun _ _ => rfl)
                · obtain rfl := Option.some.inj ho
                  refine .inl ⟨rfl, ?_⟩
                  have e0 : a.eval (.tmp 0) = .int .i64 p := hpar 0 _ (by kernel_rfl) (by kernel_rfl)
                  exact wpv_of (wp_move _ _ rfl e0) (fun _ _ => rfl)
                · obtain rfl := Option.some.inj ho
                  refine .inl ⟨rfl, ?_⟩
                  exact wpv_call 74 [] _ rfl [] (by simp only [List.map_cons, List.map_nil, ]) Try.call74 (letter_any w2)
                · obtain rfl := Option.some.inj ho
                  refine .inl ⟨rfl, ?_⟩
                  have e8 : a.eval (.tmp 8) = .int .i64 ((j + 1 : Nat) : Int) := hpar 8 _ (by kernel_rfl) (by kernel_rfl)
                  exact wpv_of (wp_move _ _ rfl e8) (fun _ _ => rfl)
                · obtain rfl := Option.some.inj ho
                  refine .inl ⟨rfl, ?_⟩
                  have e32 : a.eval (.tmp 32) = .int .i64 p := hrd 3 _ 32 rfl rfl (by kernel_rfl) (by kernel_rfl)
                  have h33 : (fun v w => IsRow w v ([0, 1])) (a.eval (.tmp 33)) w2 := hrd 4 _ 33 rfl rfl (by kernel_rfl) (by kernel_rfl)
                  generalize e33 : a.eval (.tmp 33) = v33 at h33
                  have e34 : a.eval (.tmp 34) = .int .i64 ((j + 1 : Nat) : Int) := hrd 5 _ 34 rfl rfl (by kernel_rfl) (by kernel_rfl)
                  exact wpv_call 54 [.tmp 32, .tmp 33, .tmp 34] _ rfl [.int .i64 p, v33, .int .i64 ((j + 1 : Nat) : Int)] (by simp only [List.map_cons, List.map_nil, e32, e33, e34]) Try.call54 (spH.out (j + 1) (by omega) _ w2 h33)
                · obtain rfl := Option.some.inj ho
                  refine .inl ⟨rfl, ?_⟩
                  have e5 : a.eval (.tmp 5) = .slice (some ⟨gO, 0, none⟩) (n0) (n0) := hpar 5 _ (by kernel_rfl) (by kernel_rfl)
                  exact wpv_of (wp_move _ _ rfl e5) (fun _ _ => rfl)
                · obtain rfl := Option.some.inj ho
                  refine .inl ⟨rfl, ?_⟩
                  have e8 : a.eval (.tmp 8) = .int .i64 ((j + 1 : Nat) : Int) := hpar 8 _ (by kernel_rfl) (by kernel_rfl)
                  exact wpv_of (wp_move _ _ rfl e8) (fun _ _ => rfl)
                · obtain rfl := Option.some.inj ho
                  refine .inl ⟨rfl, ?_⟩
                  have e36 : a.eval (.tmp 36) = .slice (some ⟨gO, 0, none⟩) (n0) (n0) := hrd 7 _ 36 rfl rfl (by kernel_rfl) (by kernel_rfl)
                  have e37 : a.eval (.tmp 37) = .int .i64 ((j + 1 : Nat) : Int) := hrd 8 _ 37 rfl rfl (by kernel_rfl) (by kernel_rfl)
                  exact wpv_of (wp_index_row1 57 48 _ _ rfl uRowsT sRowT1 (gO) (n0) (n0) (j + 1) .i64 e36 e37 (by omega)) (fun _ _ => rfl)
                · obtain rfl := Option.some.inj ho
                  refine .inl ⟨rfl, ?_⟩
                  have e38 : a.eval (.tmp 38) = .pointer (some ⟨gO, j + 1, none⟩) := hrd 9 _ 38 rfl rfl (by kernel_rfl) (by kernel_rfl)
                  exact wpv_of (wp_load_slice 48 2 _ rfl _ e38 uRowT1 _ (by rw [(hO.keep hBl).cell]; exact arr_get_lt R (show j + 1 < n0 by omega))) (fun _ _ => rfl)
                · obtain rfl := Option.some.inj ho
                  refine .inl ⟨rfl, ?_⟩
                  have e31 : a.eval (.tmp 31) = .int .i64 p := hrd 2 _ 31 rfl rfl (by kernel_rfl) (by kernel_rfl)
                  have h35 : (fun v w => IsRow w v (tpow (P ^ (j + 1)))) (a.eval (.tmp 35)) w2 := hrd 6 _ 35 rfl rfl (by kernel_rfl) (by kernel_rfl)
                  generalize e35 : a.eval (.tmp 35) = v35 at h35
                  have e39 : a.eval (.tmp 39) = (R (j + 1)) := hrd 10 _ 39 rfl rfl (by kernel_rfl) (by kernel_rfl)
                  exact wpv_call 53 [.tmp 31, .tmp 35, .tmp 39] _ rfl [.int .i64 p, v35, (R (j + 1))] (by simp only [List.map_cons, List.map_nil, e31, e35, e39]) Try.call53 (tmH.out (j + 1) (by omega) _ _ w2 h35 ((hR.out (j + 1) (by omega)).below hBl))
                · obtain rfl := Option.some.inj ho
                  refine .inl ⟨rfl, ?_⟩
                  have e29 : a.eval (.tmp 29) = .slice (some ⟨w0.heap.size, 0, none⟩) (n0 + 1) (n0 + 1) := hrd 0 _ 29 rfl rfl (by kernel_rfl) (by kernel_rfl)
                  have e30 : a.eval (.tmp 30) = .int .i64 ((j + 1 : Nat) : Int) := hrd 1 _ 30 rfl rfl (by kernel_rfl) (by kernel_rfl)
                  exact wpv_of (wp_index_row1 57 48 _ _ rfl uRowsT sRowT1 (w0.heap.size) (n0 + 1) (n0 + 1) (j + 1) .i64 e29 e30 (by omega)) (fun _ _ => rfl)
                · obtain rfl := Option.some.inj ho
                  exact absurd rfl hiZ
                · simp at ho
              intro oZ hoZ vals xE hBx hSx hc0
              obtain rfl := Option.some.inj hoZ
              clear hoZ
              have e0 : vals 0 = .slice (some ⟨w0.heap.size, 0, none⟩) (n0 + 1) (n0 + 1) := hc0 0 (by simp) (by decide)
              have e1 : vals 1 = .int .i64 ((j + 1 : Nat) : Int) := hc0 1 (by simp) (by decide)
              have e2 : vals 2 = .int .i64 p := hc0 2 (by simp) (by decide)
              have e3 : vals 3 = .int .i64 p := hc0 3 (by simp) (by decide)
              have cE4 : (fun v w => IsRow w v ([0, 1])) (vals 4) xE := hc0 4 (by simp) (by decide)
              generalize ev4 : vals 4 = uE4 at cE4
              have e5 : vals 5 = .int .i64 ((j + 1 : Nat) : Int) := hc0 5 (by simp) (by decide)
              have cE6 : (fun v w => IsRow w v (tpow (P ^ (j + 1)))) (vals 6) xE := hc0 6 (by simp) (by decide)
              generalize ev6 : vals 6 = uE6 at cE6
              have e7 : vals 7 = .slice (some ⟨gO, 0, none⟩) (n0) (n0) := hc0 7 (by simp) (by decide)
              have e8 : vals 8 = .int .i64 ((j + 1 : Nat) : Int) := hc0 8 (by simp) (by decide)
              have e9 : vals 9 = .pointer (some ⟨gO, j + 1, none⟩) := hc0 9 (by simp) (by decide)
              have e10 : vals 10 = (R (j + 1)) := hc0 10 (by simp) (by decide)
              have cE11 : (fun v w => IsRow w v (mulp p (tpow (P ^ (j + 1))) (M (j + 1)))) (vals 11) xE := hc0 11 (by simp) (by decide)
              generalize ev11 : vals 11 = uE11 at cE11
              have e12 : vals 12 = .pointer (some ⟨w0.heap.size, j + 1, none⟩) := hc0 12 (by simp) (by decide)
              refine ⟨rfl, ?_⟩
              simp only [List.length_cons, List.length_nil, Nat.zero_add, Nat.reduceAdd, List.replicate, seenAll, Bool.false_eq_true, if_false, putAll, if_true, Act.put, List.setIfInBounds_toArray, List.set_cons_zero, List.set_cons_succ, e0, e1, e2, e3, ev4, e5, ev6, e7, e8, e9, e10, ev11, e12]
              replace hN := hN.keep hBx
              replace hO := hO.keep hBx
              replace hb := below_step hb hBx
              clear hc0 hSx e0 e1 e2 e3 ev4 e5 ev6 e7 e8 e9 e10 ev11 e12
              have hM1 := show IsRow xE uE11 (mulp p (tpow (P ^ (j + 1))) (M (j + 1))) from cE11
              clear cE4 cE6 cE11
              have hR2 := Lib.hid (fun q (hq : q < n0) => ((hR.out q hq).below hBx).setB hN (fun q _ => hNs q) (arr (n0 + 1) (fun q => if q = j + 1 then uE11 else NN q)))
              have hP2 := Lib.hid (fun q (hq : q < (j + 1)) => ((hP.out q hq).below hBx).setB hN (fun q _ => hNs q) (arr (n0 + 1) (fun q => if q = j + 1 then uE11 else NN q)))
              clear hBx hR
              have hsm := hM1.isSlice
              refine wp_store_arrN 48 _ _ rfl (w0.heap.size) (j + 1) rfl uE11 rfl (n0 + 1) NN _ hN (by omega) sRowT1 (slice_one hsm) ?_
              have hM2 := Lib.hid (hM1.setB hN (fun q _ => hNs q) (arr (n0 + 1) (fun q => if q = j + 1 then uE11 else NN q)))
              have hNx := hN.setRow_same (cs := arr (n0 + 1) (fun q => if q = j + 1 then uE11 else NN q))
              have hO2 := hO.setRow_other (g := w0.heap.size) (cs := arr (n0 + 1) (fun q => if q = j + 1 then uE11 else NN q)) (by omega)
              clear hO
              have hb2 := below_setRow hb (g := w0.heap.size) hgN (arr (n0 + 1) (fun q => if q = j + 1 then uE11 else NN q))
              obtain ⟨N2, hNN⟩ : ∃ f : Nat → Value, (fun q => if q = j + 1 then uE11 else NN q) = f := ⟨_, rfl⟩
              rw [hNN] at hR2 hP2 hM2 hNx hb2 hO2 ⊢
              have hNJ : N2 (j + 1) = uE11 := by rw [← hNN]; exact if_pos rfl
              have hNo : ∀ q, q ≠ j + 1 → N2 q = NN q := fun q hq => by rw [← hNN]; exact if_neg hq
              have hNs2 : ∀ q, ∃ a m c, N2 q = .slice a m c := fun q => by
                by_cases e : q = j + 1
                · rw [e, hNJ]; exact hsm
                · rw [hNo q e]; exact hNs q
              clear hNN hM1 hN hb
              generalize World.setRow xE (w0.heap.size) (arr (n0 + 1) N2) = vE at *
              rw [← hNJ] at hM2
              have hN := hNx
              have hO := hO2
              have hR := hR2
              have hP := Lib.hid (fun q (hq : q < j + 1) => (by rw [hNo q (by omega)]; exact hP2.out q hq : IsRow vE (N2 q) (mid q)))
              have hMJ := hM2
              have hNz2 : ∀ q, j + 2 ≤ q → N2 q = .slice none 0 0 := fun q hq => by rw [hNo q (by omega)]; exact hNz q (by omega)
              have hNs := hNs2
              have hb := hb2
              clear hNx hO2 hR2 hP2 hM2 hNs2 hb2 hNo hNJ hNz
              have hNz := hNz2
              clear hNz2
              go_wp2_with fail
              go_upto_region 12 with (fail)
              refine gen_last (w := _) (by kernel_rfl) (by kernel_rfl) (by kernel_rfl) 14 (by kernel_rfl)
                  (fun i => ([fun zv _ => zv = .slice (some ⟨w0.heap.size, 0, none⟩) (n0 + 1) (n0 + 1), fun zv _ => zv = .int .i64 ((j + 1 : Nat) : Int), fun zv _ => zv = .int .i64 p, fun zv _ => zv = .slice (some ⟨w0.heap.size, 0, none⟩) (n0 + 1) (n0 + 1), fun zv _ => zv = .int .i64 ((j + 1 : Nat) : Int), fun zv _ => zv = .pointer (some ⟨w0.heap.size, j + 1, none⟩), fun zv _ => zv = (N2 (j + 1)), fun zv _ => zv = .slice (some ⟨gO, 0, none⟩) (n0) (n0), fun zv _ => zv = .int .i64 ((j + 1 : Nat) : Int), fun zv _ => zv = .int .i64 ((j : Nat) : Int), fun zv _ => zv = .pointer (some ⟨gO, j, none⟩), fun zv _ => zv = (R j), fun v w => IsRow w v (M' (j + 1)), fun zv _ => zv = .pointer (some ⟨w0.heap.size, j + 1, none⟩), fun _ _ => True] : List (Value → World → Prop)).getD i (fun _ _ => True))
                  (fun w' => True) trivial (fun w1 w2 h hb => trivial) ?_ ?_ ?_
              · intro i v w1 w2 h hb
                rcases i with _|_|_|_|_|_|_|_|_|_|_|_|_|_|_|i
                · exact h
                · exact h
                · exact h
                · exact h
                · exact h
                · exact h
                · exact h
                · exact h
                · exact h
                · exact h
                · exact h
                · exact h
                · exact (show IsRow w1 v (M' (j + 1)) from h).below hb
                · exact h
                · exact h
                · exact h
              · intro i o ho hiZ a w2 hBl hSx hrd hpar
                rcases i with _|_|_|_|_|_|_|_|_|_|_|_|_|_|_|i
                · obtain rfl := Option.some.inj ho
                  refine .inl ⟨rfl, ?_⟩
                  have e7 : a.eval (.tmp 7) = .slice (some ⟨w0.heap.size, 0, none⟩) (n0 + 1) (n0 + 1) := hpar 7 _ (by kernel_rfl) (by kernel_rfl)
                  exact wpv_of (wp_move _ _ rfl e7) (fun _ _ => rfl)
                · obtain rfl := Option.some.inj ho
                  refine .inl ⟨rfl, ?_⟩
                  have e8 : a.eval (.tmp 8) = .int .i64 ((j + 1 : Nat) : Int) := hpar 8 _ (by kernel_rfl) (by kernel_rfl)
                  exact wpv_of (wp_move _ _ rfl e8) (fun _ _ => rfl)
                · obtain rfl := Option.some.inj ho
                  refine .inl ⟨rfl, ?_⟩
                  have e0 : a.eval (.tmp 0) = .int .i64 p := hpar 0 _ (by kernel_rfl) (by kernel_rfl)
                  exact wpv_of (wp_move _ _ rfl e0) (fun _ _ => rfl)
                · obtain rfl := Option.some.inj ho
                  refine .inl ⟨rfl, ?_⟩
                  have e7 : a.eval (.tmp 7) = .slice (some ⟨w0.heap.size, 0, none⟩) (n0 + 1) (n0 + 1) := hpar 7 _ (by kernel_rfl) (by kernel_rfl)
                  exact wpv_of (wp_move _ _ rfl e7) (fun _ _ => rfl)
                · obtain rfl := Option.some.inj ho
                  refine .inl ⟨rfl, ?_⟩
                  have e8 : a.eval (.tmp 8) = .int .i64 ((j + 1 : Nat) : Int) := hpar 8 _ (by kernel_rfl) (by kernel_rfl)
                  exact wpv_of (wp_move _ _ rfl e8) (fun _ _ => rfl)
                · obtain rfl := Option.some.inj ho
                  refine .inl ⟨rfl, ?_⟩
                  have e47 : a.eval (.tmp 47) = .slice (some ⟨w0.heap.size, 0, none⟩) (n0 + 1) (n0 + 1) := hrd 3 _ 47 rfl rfl (by kernel_rfl) (by kernel_rfl)
                  have e48 : a.eval (.tmp 48) = .int .i64 ((j + 1 : Nat) : Int) := hrd 4 _ 48 rfl rfl (by kernel_rfl) (by kernel_rfl)
                  exact wpv_of (wp_index_row1 57 48 _ _ rfl uRowsT sRowT1 (w0.heap.size) (n0 + 1) (n0 + 1) (j + 1) .i64 e47 e48 (by omega)) (fun _ _ => rfl)
                · obtain rfl := Option.some.inj ho
                  refine .inl ⟨rfl, ?_⟩
                  have e49 : a.eval (.tmp 49) = .pointer (some ⟨w0.heap.size, j + 1, none⟩) := hrd 5 _ 49 rfl rfl (by kernel_rfl) (by kernel_rfl)
                  exact wpv_of (wp_load_slice 48 2 _ rfl _ e49 uRowT1 _ (by rw [(hN.keep hBl).cell]; exact arr_get_lt N2 (show j + 1 < n0 + 1 by omega))) (fun _ _ => rfl)
                · obtain rfl := Option.some.inj ho
                  refine .inl ⟨rfl, ?_⟩
                  have e5 : a.eval (.tmp 5) = .slice (some ⟨gO, 0, none⟩) (n0) (n0) := hpar 5 _ (by kernel_rfl) (by kernel_rfl)
                  exact wpv_of (wp_move _ _ rfl e5) (fun _ _ => rfl)
                · obtain rfl := Option.some.inj ho
                  refine .inl ⟨rfl, ?_⟩
                  have e8 : a.eval (.tmp 8) = .int .i64 ((j + 1 : Nat) : Int) := hpar 8 _ (by kernel_rfl) (by kernel_rfl)
                  exact wpv_of (wp_move _ _ rfl e8) (fun _ _ => rfl)
                · obtain rfl := Option.some.inj ho
                  refine .inl ⟨rfl, ?_⟩
                  have e52 : a.eval (.tmp 52) = .int .i64 ((j + 1 : Nat) : Int) := hrd 8 _ 52 rfl rfl (by kernel_rfl) (by kernel_rfl)
                  exact wpv_of (wp_dec _ _ _ rfl j e52 (by omega)) (fun _ _ => rfl)
                · obtain rfl := Option.some.inj ho
                  refine .inl ⟨rfl, ?_⟩
                  have e51 : a.eval (.tmp 51) = .slice (some ⟨gO, 0, none⟩) (n0) (n0) := hrd 7 _ 51 rfl rfl (by kernel_rfl) (by kernel_rfl)
                  have e53 : a.eval (.tmp 53) = .int .i64 ((j : Nat) : Int) := hrd 9 _ 53 rfl rfl (by kernel_rfl) (by kernel_rfl)
                  exact wpv_of (wp_index_row1 57 48 _ _ rfl uRowsT sRowT1 (gO) (n0) (n0) (j) .i64 e51 e53 (by omega)) (fun _ _ => rfl)
                · obtain rfl := Option.some.inj ho
                  refine .inl ⟨rfl, ?_⟩
                  have e54 : a.eval (.tmp 54) = .pointer (some ⟨gO, j, none⟩) := hrd 10 _ 54 rfl rfl (by kernel_rfl) (by kernel_rfl)
                  exact wpv_of (wp_load_slice 48 2 _ rfl _ e54 uRowT1 _ (by rw [(hO.keep hBl).cell]; exact arr_get_lt R (show j < n0 by omega))) (fun _ _ => rfl)
                · obtain rfl := Option.some.inj ho
                  refine .inl ⟨rfl, ?_⟩
                  have e46 : a.eval (.tmp 46) = .int .i64 p := hrd 2 _ 46 rfl rfl (by kernel_rfl) (by kernel_rfl)
                  have e50 : a.eval (.tmp 50) = (N2 (j + 1)) := hrd 6 _ 50 rfl rfl (by kernel_rfl) (by kernel_rfl)
                  have e55 : a.eval (.tmp 55) = (R j) := hrd 11 _ 55 rfl rfl (by kernel_rfl) (by kernel_rfl)
                  exact wpv_call 46 [.tmp 46, .tmp 50, .tmp 55, .const (.int .i64 1)] _ rfl [.int .i64 p, (N2 (j + 1)), (R j), .int .i64 1] (by simp only [List.map_cons, List.map_nil, e46, e50, e55, eval_const]) Try.call46 (cmH.out j (by omega) _ _ w2 (hMJ.out.below hBl) ((hR.out j (by omega)).below hBl))
                · obtain rfl := Option.some.inj ho
                  refine .inl ⟨rfl, ?_⟩
                  have e44 : a.eval (.tmp 44) = .slice (some ⟨w0.heap.size, 0, none⟩) (n0 + 1) (n0 + 1) := hrd 0 _ 44 rfl rfl (by kernel_rfl) (by kernel_rfl)
                  have e45 : a.eval (.tmp 45) = .int .i64 ((j + 1 : Nat) : Int) := hrd 1 _ 45 rfl rfl (by kernel_rfl) (by kernel_rfl)
                  exact wpv_of (wp_index_row1 57 48 _ _ rfl uRowsT sRowT1 (w0.heap.size) (n0 + 1) (n0 + 1) (j + 1) .i64 e44 e45 (by omega)) (fun _ _ => rfl)
                · obtain rfl := Option.some.inj ho
                  exact absurd rfl hiZ
                · simp at ho
              intro oZ hoZ vals xF hBx hSx hc0
              obtain rfl := Option.some.inj hoZ
              clear hoZ
              have e0 : vals 0 = .slice (some ⟨w0.heap.size, 0, none⟩) (n0 + 1) (n0 + 1) := hc0 0 (by simp) (by decide)
              have e1 : vals 1 = .int .i64 ((j + 1 : Nat) : Int) := hc0 1 (by simp) (by decide)
              have e2 : vals 2 = .int .i64 p := hc0 2 (by simp) (by decide)
              have e3 : vals 3 = .slice (some ⟨w0.heap.size, 0, none⟩) (n0 + 1) (n0 + 1) := hc0 3 (by simp) (by decide)
              have e4 : vals 4 = .int .i64 ((j + 1 : Nat) : Int) := hc0 4 (by simp) (by decide)
              have e5 : vals 5 = .pointer (some ⟨w0.heap.size, j + 1, none⟩) := hc0 5 (by simp) (by decide)
              have e6 : vals 6 = (N2 (j + 1)) := hc0 6 (by simp) (by decide)
              have e7 : vals 7 = .slice (some ⟨gO, 0, none⟩) (n0) (n0) := hc0 7 (by simp) (by decide)
              have e8 : vals 8 = .int .i64 ((j + 1 : Nat) : Int) := hc0 8 (by simp) (by decide)
              have e9 : vals 9 = .int .i64 ((j : Nat) : Int) := hc0 9 (by simp) (by decide)
              have e10 : vals 10 = .pointer (some ⟨gO, j, none⟩) := hc0 10 (by simp) (by decide)
              have e11 : vals 11 = (R j) := hc0 11 (by simp) (by decide)
              have cF12 : (fun v w => IsRow w v (M' (j + 1))) (vals 12) xF := hc0 12 (by simp) (by decide)
              generalize ev12 : vals 12 = uF12 at cF12
              have e13 : vals 13 = .pointer (some ⟨w0.heap.size, j + 1, none⟩) := hc0 13 (by simp) (by decide)
              refine ⟨rfl, ?_⟩
              simp only [List.length_cons, List.length_nil, Nat.zero_add, Nat.reduceAdd, List.replicate, seenAll, Bool.false_eq_true, if_false, putAll, if_true, Act.put, List.setIfInBounds_toArray, List.set_cons_zero, List.set_cons_succ, e0, e1, e2, e3, e4, e5, e6, e7, e8, e9, e10, e11, ev12, e13]
              replace hN := hN.keep hBx
              replace hO := hO.keep hBx
              replace hb := below_step hb hBx
              clear hc0 hSx e0 e1 e2 e3 e4 e5 e6 e7 e8 e9 e10 e11 ev12 e13
              have hM1 := show IsRow xF uF12 (M' (j + 1)) from cF12
              clear cF12
              have hR2 := Lib.hid (fun q (hq : q < n0) => ((hR.out q hq).below hBx).setB hN (fun q _ => hNs q) (arr (n0 + 1) (fun q => if q = j + 1 then uF12 else N2 q)))
              have hP2 := Lib.hid (fun q (hq : q < (j + 1)) => ((hP.out q hq).below hBx).setB hN (fun q _ => hNs q) (arr (n0 + 1) (fun q => if q = j + 1 then uF12 else N2 q)))
              clear hBx hR
              have hsm := hM1.isSlice
              refine wp_store_arrN 48 _ _ rfl (w0.heap.size) (j + 1) rfl uF12 rfl (n0 + 1) N2 _ hN (by omega) sRowT1 (slice_one hsm) ?_
              have hM2 := Lib.hid (hM1.setB hN (fun q _ => hNs q) (arr (n0 + 1) (fun q => if q = j + 1 then uF12 else N2 q)))
              have hNx := hN.setRow_same (cs := arr (n0 + 1) (fun q => if q = j + 1 then uF12 else N2 q))
              have hO2 := hO.setRow_other (g := w0.heap.size) (cs := arr (n0 + 1) (fun q => if q = j + 1 then uF12 else N2 q)) (by omega)
              clear hO
              have hb2 := below_setRow hb (g := w0.heap.size) hgN (arr (n0 + 1) (fun q => if q = j + 1 then uF12 else N2 q))
              obtain ⟨N3, hNN⟩ : ∃ f : Nat → Value, (fun q => if q = j + 1 then uF12 else N2 q) = f := ⟨_, rfl⟩
              rw [hNN] at hR2 hP2 hM2 hNx hb2 hO2 ⊢
              have hNJ : N3 (j + 1) = uF12 := by rw [← hNN]; exact if_pos rfl
              have hNo : ∀ q, q ≠ j + 1 → N3 q = N2 q := fun q hq => by rw [← hNN]; exact if_neg hq
              have hNs2 : ∀ q, ∃ a m c, N3 q = .slice a m c := fun q => by
                by_cases e : q = j + 1
                · rw [e, hNJ]; exact hsm
                · rw [hNo q e]; exact hNs q
              clear hNN hM1 hN hb
              generalize World.setRow xF (w0.heap.size) (arr (n0 + 1) N3) = vF at *
              rw [← hNJ] at hM2
              go_wp2_with fail
              go_roundw
              case rel =>
                refine ⟨(j + 1) + 1, N3, by omega, by go_num, hNx, hNs2, fun q hq => ?_, Lib.hid fun q hq => ?_, hR2, fun h => ?_, hb2⟩
                · rw [hNo q (by omega)]; exact hNz q (by omega)
                · by_cases e : q = j + 1
                  · subst e; rw [hmdSH.out]; exact hM2.out
                  · rw [hNo q e]; exact hP2.out q (by omega)
                · exact hO2
              case measure => simp [intOf] <;> omega
            · have hMJ := Lib.hid (show IsRow wr (NN (j + 1)) (mulp p (tpow (P ^ (j + 1))) (M (j + 1))) by rw [hNz (j + 1) (by omega), hm0n.out (j + 1) (by omega)]; exact IsRow_nil _)
              go_wp2_with fail
              go_upto_region 12 with (fail)
              refine gen_last (w := _) (by kernel_rfl) (by kernel_rfl) (by kernel_rfl) 14 (by kernel_rfl)
                  (fun i => ([fun zv _ => zv = .slice (some ⟨w0.heap.size, 0, none⟩) (n0 + 1) (n0 + 1), fun zv _ => zv = .int .i64 ((j + 1 : Nat) : Int), fun zv _ => zv = .int .i64 p, fun zv _ => zv = .slice (some ⟨w0.heap.size, 0, none⟩) (n0 + 1) (n0 + 1), fun zv _ => zv = .int .i64 ((j + 1 : Nat) : Int), fun zv _ => zv = .pointer (some ⟨w0.heap.size, j + 1, none⟩), fun zv _ => zv = (NN (j + 1)), fun zv _ => zv = .slice (some ⟨gO, 0, none⟩) (n0) (n0), fun zv _ => zv = .int .i64 ((j + 1 : Nat) : Int), fun zv _ => zv = .int .i64 ((j : Nat) : Int), fun zv _ => zv = .pointer (some ⟨gO, j, none⟩), fun zv _ => zv = (R j), fun v w => IsRow w v (M' (j + 1)), fun zv _ => zv = .pointer (some ⟨w0.heap.size, j + 1, none⟩), fun _ _ => True] : List (Value → World → Prop)).getD i (fun _ _ => True))
                  (fun w' => True) trivial (fun w1 w2 h hb => trivial) ?_ ?_ ?_
              · intro i v w1 w2 h hb
                rcases i with _|_|_|_|_|_|_|_|_|_|_|_|_|_|_|i
                · exact h
                · exact h
                · exact h
                · exact h
                · exact h
                · exact h
                · exact h
                · exact h
                · exact h
                · exact h
                · exact h
                · exact h
                · exact (show IsRow w1 v (M' (j + 1)) from h).below hb
                · exact h
                · exact h
                · exact h
              · intro i o ho hiZ a w2 hBl hSx hrd hpar
                rcases i with _|_|_|_|_|_|_|_|_|_|_|_|_|_|_|i
                · obtain rfl := Option.some.inj ho
                  refine .inl ⟨rfl, ?_⟩
                  have e7 : a.eval (.tmp 7) = .slice (some ⟨w0.heap.size, 0, none⟩) (n0 + 1) (n0 + 1) := hpar 7 _ (by kernel_rfl) (by kernel_rfl)
                  exact wpv_of (wp_move _ _ rfl e7) (fun _ _ => rfl)
                · obtain rfl := Option.some.inj ho
                  refine .inl ⟨rfl, ?_⟩
                  have e8 : a.eval (.tmp 8) = .int .i64 ((j + 1 : Nat) : Int) := hpar 8 _ (by kernel_rfl) (by kernel_rfl)
                  exact wpv_of (wp_move _ _ rfl e8) (fun _ _ => rfl)
                · obtain rfl := Option.some.inj ho
                  refine .inl ⟨rfl, ?_⟩
                  have e0 : a.eval (.tmp 0) = .int .i64 p := hpar 0 _ (by kernel_rfl) (by kernel_rfl)
                  exact wpv_of (wp_move _ _ rfl e0) (fun _ _ => rfl)
                · obtain rfl := Option.some.inj ho
                  refine .inl ⟨rfl, ?_⟩
                  have e7 : a.eval (.tmp 7) = .slice (some ⟨w0.heap.size, 0, none⟩) (n0 + 1) (n0 + 1) := hpar 7 _ (by kernel_rfl) (by kernel_rfl)
                  exact wpv_of (wp_move _ _ rfl e7) (fun _ _ => rfl)
                · obtain rfl := Option.some.inj ho
                  refine .inl ⟨rfl, ?_⟩
                  have e8 : a.eval (.tmp 8) = .int .i64 ((j + 1 : Nat) : Int) := hpar 8 _ (by kernel_rfl) (by kernel_rfl)
                  exact wpv_of (wp_move _ _ rfl e8) (fun _ _ => rfl)
                · obtain rfl := Option.some.inj ho
                  refine .inl ⟨rfl, ?_⟩
                  have e47 : a.eval (.tmp 47) = .slice (some ⟨w0.heap.size, 0, none⟩) (n0 + 1) (n0 + 1) := hrd 3 _ 47 rfl rfl (by kernel_rfl) (by kernel_rfl)
                  have e48 : a.eval (.tmp 48) = .int .i64 ((j + 1 : Nat) : Int) := hrd 4 _ 48 rfl rfl (by kernel_rfl) (by kernel_rfl)
                  exact wpv_of (wp_index_row1 57 48 _ _ rfl uRowsT sRowT1 (w0.heap.size) (n0 + 1) (n0 + 1) (j + 1) .i64 e47 e48 (by omega)) (fun _ _ => rfl)
                · obtain rfl := Option.some.inj ho
                  refine .inl ⟨rfl, ?_⟩
                  have e49 : a.eval (.tmp 49) = .pointer (some ⟨w0.heap.size, j + 1, none⟩) := hrd 5 _ 49 rfl rfl (by kernel_rfl) (by kernel_rfl)
                  exact wpv_of (wp_load_slice 48 2 _ rfl _ e49 uRowT1 _ (by rw [(hN.keep hBl).cell]; exact arr_get_lt NN (show j + 1 < n0 + 1 by omega))) (fun _ _ => rfl)
                · obtain rfl := Option.some.inj ho
                  refine .inl ⟨rfl, ?_⟩
                  have e5 : a.eval (.tmp 5) = .slice (some ⟨gO, 0, none⟩) (n0) (n0) := hpar 5 _ (by kernel_rfl) (by kernel_rfl)
                  exact wpv_of (wp_move _ _ rfl e5) (fun _ _ => rfl)
                · obtain rfl := Option.some.inj ho
                  refine .inl ⟨rfl, ?_⟩
                  have e8 : a.eval (.tmp 8) = .int .i64 ((j + 1 : Nat) : Int) := hpar 8 _ (by kernel_rfl) (by kernel_rfl)
                  exact wpv_of (wp_move _ _ rfl e8) (fun _ _ => rfl)
                · obtain rfl := Option.some.inj ho
                  refine .inl ⟨rfl, ?_⟩
                  have e52 : a.eval (.tmp 52) = .int .i64 ((j + 1 : Nat) : Int) := hrd 8 _ 52 rfl rfl (by kernel_rfl) (by kernel_rfl)
                  exact wpv_of (wp_dec _ _ _ rfl j e52 (by omega)) (fun _ _ => rfl)
                · obtain rfl := Option.some.inj ho
                  refine .inl ⟨rfl, ?_⟩
                  have e51 : a.eval (.tmp 51) = .slice (some ⟨gO, 0, none⟩) (n0) (n0) := hrd 7 _ 51 rfl rfl (by kernel_rfl) (by kernel_rfl)
                  have e53 : a.eval (.tmp 53) = .int .i64 ((j : Nat) : Int) := hrd 9 _ 53 rfl rfl (by kernel_rfl) (by kernel_rfl)
                  exact wpv_of (wp_index_row1 57 48 _ _ rfl uRowsT sRowT1 (gO) (n0) (n0) (j) .i64 e51 e53 (by omega)) (fun _ _ => rfl)
                · obtain rfl := Option.some.inj ho
                  refine .inl ⟨rfl, ?_⟩
                  have e54 : a.eval (.tmp 54) = .pointer (some ⟨gO, j, none⟩) := hrd 10 _ 54 rfl rfl (by kernel_rfl) (by kernel_rfl)
                  exact wpv_of (wp_load_slice 48 2 _ rfl _ e54 uRowT1 _ (by rw [(hO.keep hBl).cell]; exact arr_get_lt R (show j < n0 by omega))) (fun _ _ => rfl)
                · obtain rfl := Option.some.inj ho
                  refine .inl ⟨rfl, ?_⟩
                  have e46 : a.eval (.tmp 46) = .int .i64 p := hrd 2 _ 46 rfl rfl (by kernel_rfl) (by kernel_rfl)
                  have e50 : a.eval (.tmp 50) = (NN (j + 1)) := hrd 6 _ 50 rfl rfl (by kernel_rfl) (by kernel_rfl)
                  have e55 : a.eval (.tmp 55) = (R j) := hrd 11 _ 55 rfl rfl (by kernel_rfl) (by kernel_rfl)
                  exact wpv_call 46 [.tmp 46, .tmp 50, .tmp 55, .const (.int .i64 1)] _ rfl [.int .i64 p, (NN (j + 1)), (R j), .int .i64 1] (by simp only [List.map_cons, List.map_nil, e46, e50, e55, eval_const]) Try.call46 (cmH.out j (by omega) _ _ w2 (hMJ.out.below hBl) ((hR.out j (by omega)).below hBl))
                · obtain rfl := Option.some.inj ho
                  refine .inl ⟨rfl, ?_⟩
                  have e44 : a.eval (.tmp 44) = .slice (some ⟨w0.heap.size, 0, none⟩) (n0 + 1) (n0 + 1) := hrd 0 _ 44 rfl rfl (by kernel_rfl) (by kernel_rfl)
                  have e45 : a.eval (.tmp 45) = .int .i64 ((j + 1 : Nat) : Int) := hrd 1 _ 45 rfl rfl (by kernel_rfl) (by kernel_rfl)
                  exact wpv_of (wp_index_row1 57 48 _ _ rfl uRowsT sRowT1 (w0.heap.size) (n0 + 1) (n0 + 1) (j + 1) .i64 e44 e45 (by omega)) (fun _ _ => rfl)
                · obtain rfl := Option.some.inj ho
                  exact absurd rfl hiZ
                · simp at ho
              intro oZ hoZ vals xF hBx hSx hc0
              obtain rfl := Option.some.inj hoZ
              clear hoZ
              have e0 : vals 0 = .slice (some ⟨w0.heap.size, 0, none⟩) (n0 + 1) (n0 + 1) := hc0 0 (by simp) (by decide)
              have e1 : vals 1 = .int .i64 ((j + 1 : Nat) : Int) := hc0 1 (by simp) (by decide)
              have e2 : vals 2 = .int .i64 p := hc0 2 (by simp) (by decide)
              have e3 : vals 3 = .slice (some ⟨w0.heap.size, 0, none⟩) (n0 + 1) (n0 + 1) := hc0 3 (by simp) (by decide)
              have e4 : vals 4 = .int .i64 ((j + 1 : Nat) : Int) := hc0 4 (by simp) (by decide)
              have e5 : vals 5 = .pointer (some ⟨w0.heap.size, j + 1, none⟩) := hc0 5 (by simp) (by decide)
              have e6 : vals 6 = (NN (j + 1)) := hc0 6 (by simp) (by decide)
              have e7 : vals 7 = .slice (some ⟨gO, 0, none⟩) (n0) (n0) := hc0 7 (by simp) (by decide)
              have e8 : vals 8 = .int .i64 ((j + 1 : Nat) : Int) := hc0 8 (by simp) (by decide)
              have e9 : vals 9 = .int .i64 ((j : Nat) : Int) := hc0 9 (by simp) (by decide)
              have e10 : vals 10 = .pointer (some ⟨gO, j, none⟩) := hc0 10 (by simp) (by decide)
              have e11 : vals 11 = (R j) := hc0 11 (by simp) (by decide)
              have cF12 : (fun v w => IsRow w v (M' (j + 1))) (vals 12) xF := hc0 12 (by simp) (by decide)
              generalize ev12 : vals 12 = uF12 at cF12
              have e13 : vals 13 = .pointer (some ⟨w0.heap.size, j + 1, none⟩) := hc0 13 (by simp) (by decide)
              refine ⟨rfl, ?_⟩
              simp only [List.length_cons, List.length_nil, Nat.zero_add, Nat.reduceAdd, List.replicate, seenAll, Bool.false_eq_true, if_false, putAll, if_true, Act.put, List.setIfInBounds_toArray, List.set_cons_zero, List.set_cons_succ, e0, e1, e2, e3, e4, e5, e6, e7, e8, e9, e10, e11, ev12, e13]
              replace hN := hN.keep hBx
              replace hO := hO.keep hBx
              replace hb := below_step hb hBx
              clear hc0 hSx e0 e1 e2 e3 e4 e5 e6 e7 e8 e9 e10 e11 ev12 e13
              have hM1 := show IsRow xF uF12 (M' (j + 1)) from cF12
              clear cF12
              have hR2 := Lib.hid (fun q (hq : q < n0) => ((hR.out q hq).below hBx).setB hN (fun q _ => hNs q) (arr (n0 + 1) (fun q => if q = j + 1 then uF12 else NN q)))
              have hP2 := Lib.hid (fun q (hq : q < (j + 1)) => ((hP.out q hq).below hBx).setB hN (fun q _ => hNs q) (arr (n0 + 1) (fun q => if q = j + 1 then uF12 else NN q)))
              clear hBx hR
              have hsm := hM1.isSlice
              refine wp_store_arrN 48 _ _ rfl (w0.heap.size) (j + 1) rfl uF12 rfl (n0 + 1) NN _ hN (by omega) sRowT1 (slice_one hsm) ?_
              have hM2 := Lib.hid (hM1.setB hN (fun q _ => hNs q) (arr (n0 + 1) (fun q => if q = j + 1 then uF12 else NN q)))
              have hNx := hN.setRow_same (cs := arr (n0 + 1) (fun q => if q = j + 1 then uF12 else NN q))
              have hO2 := hO.setRow_other (g := w0.heap.size) (cs := arr (n0 + 1) (fun q => if q = j + 1 then uF12 else NN q)) (by omega)
              clear hO
              have hb2 := below_setRow hb (g := w0.heap.size) hgN (arr (n0 + 1) (fun q => if q = j + 1 then uF12 else NN q))
              obtain ⟨N3, hNN⟩ : ∃ f : Nat → Value, (fun q => if q = j + 1 then uF12 else NN q) = f := ⟨_, rfl⟩
              rw [hNN] at hR2 hP2 hM2 hNx hb2 hO2 ⊢
              have hNJ : N3 (j + 1) = uF12 := by rw [← hNN]; exact if_pos rfl
              have hNo : ∀ q, q ≠ j + 1 → N3 q = NN q := fun q hq => by rw [← hNN]; exact if_neg hq
              have hNs2 : ∀ q, ∃ a m c, N3 q = .slice a m c := fun q => by
                by_cases e : q = j + 1
                · rw [e, hNJ]; exact hsm
                · rw [hNo q e]; exact hNs q
              clear hNN hM1 hN hb
              generalize World.setRow xF (w0.heap.size) (arr (n0 + 1) N3) = vF at *
              rw [← hNJ] at hM2
              go_wp2_with fail
              go_roundw
              case rel =>
                refine ⟨(j + 1) + 1, N3, by omega, by go_num, hNx, hNs2, fun q hq => ?_, Lib.hid fun q hq => ?_, hR2, fun h => ?_, hb2⟩
                · rw [hNo q (by omega)]; exact hNz q (by omega)
                · by_cases e : q = j + 1
                  · subst e; rw [hmdSH.out]; exact hM2.out
                  · rw [hNo q e]; exact hP2.out q (by omega)
                · exact hO2
              case measure => simp [intOf] <;> omega
        · obtain rfl : j = n0 + 1 := by omega
          clear hOx
          have hM0 := Lib.hid (show IsRow wr (NN 0) (mulp p (tpow (P ^ 0)) (M 0)) by have := hP.out 0 (by omega); rw [hmd0H.out] at this; exact this)
          go_wp2_with fail
          go_upto_region 14 with (fail)
          refine gen_last (w := _) (by kernel_rfl) (by kernel_rfl) (by kernel_rfl) 12 (by kernel_rfl)
              (fun i => ([fun zv _ => zv = .slice (some ⟨w0.heap.size, 0, none⟩) (n0 + 1) (n0 + 1), fun zv _ => zv = .int .i64 p, fun zv _ => zv = .slice (some ⟨w0.heap.size, 0, none⟩) (n0 + 1) (n0 + 1), fun zv _ => zv = .pointer (some ⟨w0.heap.size, 0, none⟩), fun zv _ => zv = (NN 0), fun zv _ => zv = .slice (some ⟨b1, off1, none⟩) L ca, fun zv _ => zv = .int .i64 ((m : Nat) : Int), fun zv _ => zv = .pointer (some ⟨b1, off1 + m, none⟩), fun zv _ => zv = .int .i64 (cf xs m), fun v w => IsRow w v ([cf xs m]), fun v w => IsRow w v (M' 0), fun zv _ => zv = .pointer (some ⟨w0.heap.size, 0, none⟩), fun _ _ => True] : List (Value → World → Prop)).getD i (fun _ _ => True))
              (fun w' => True) trivial (fun w1 w2 h hb => trivial) ?_ ?_ ?_
          · intro i v w1 w2 h hb
            rcases i with _|_|_|_|_|_|_|_|_|_|_|_|_|i
            · exact h
            · exact h
            · exact h
            · exact h
            · exact h
            · exact h
            · exact h
            · exact h
            · exact h
            · exact (show IsRow w1 v ([cf xs m]) from h).below hb
            · exact (show IsRow w1 v (M' 0) from h).below hb
            · exact h
            · exact h
            · exact h
          · intro i o ho hiZ a w2 hBl hSx hrd hpar
            rcases i with _|_|_|_|_|_|_|_|_|_|_|_|_|i
            · obtain rfl := Option.some.inj ho
              refine .inl ⟨rfl, ?_⟩
              have e7 : a.eval (.tmp 7) = .slice (some ⟨w0.heap.size, 0, none⟩) (n0 + 1) (n0 + 1) := hpar 7 _ (by kernel_rfl) (by kernel_rfl)
              exact wpv_of (wp_move _ _ rfl e7) (fun _ _ => rfl)
            · obtain rfl := Option.some.inj ho
              refine .inl ⟨rfl, ?_⟩
              have e0 : a.eval (.tmp 0) = .int .i64 p := hpar 0 _ (by kernel_rfl) (by kernel_rfl)
              exact wpv_of (wp_move _ _ rfl e0) (fun _ _ => rfl)
            · obtain rfl := Option.some.inj ho
              refine .inl ⟨rfl, ?_⟩
              have e7 : a.eval (.tmp 7) = .slice (some ⟨w0.heap.size, 0, none⟩) (n0 + 1) (n0 + 1) := hpar 7 _ (by kernel_rfl) (by kernel_rfl)
              exact wpv_of (wp_move _ _ rfl e7) (fun _ _ => rfl)
            · obtain rfl := Option.some.inj ho
              refine .inl ⟨rfl, ?_⟩
              have e61 : a.eval (.tmp 61) = .slice (some ⟨w0.heap.size, 0, none⟩) (n0 + 1) (n0 + 1) := hrd 2 _ 61 rfl rfl (by kernel_rfl) (by kernel_rfl)
              exact wpv_of (wp_index_row1 57 48 _ _ rfl uRowsT sRowT1 (w0.heap.size) (n0 + 1) (n0 + 1) (0) .i64 e61 rfl (by omega)) (fun _ _ => rfl)
            · obtain rfl := Option.some.inj ho
              refine .inl ⟨rfl, ?_⟩
              have e62 : a.eval (.tmp 62) = .pointer (some ⟨w0.heap.size, 0, none⟩) := hrd 3 _ 62 rfl rfl (by kernel_rfl) (by kernel_rfl)
              exact wpv_of (wp_load_slice 48 2 _ rfl _ e62 uRowT1 _ (by rw [(hN.keep hBl).cell]; exact arr_get_lt NN (show 0 < n0 + 1 by omega))) (fun _ _ => rfl)
            · obtain rfl := Option.some.inj ho
              refine .inl ⟨rfl, ?_⟩
              have e1 : a.eval (.tmp 1) = .slice (some ⟨b1, off1, none⟩) L ca := hpar 1 _ (by kernel_rfl) (by kernel_rfl)
              exact wpv_of (wp_move _ _ rfl e1) (fun _ _ => rfl)
            · obtain rfl := Option.some.inj ho
              refine .inl ⟨rfl, ?_⟩
              have e6 : a.eval (.tmp 6) = .int .i64 ((m : Nat) : Int) := hpar 6 _ (by kernel_rfl) (by kernel_rfl)
              exact wpv_of (wp_move _ _ rfl e6) (fun _ _ => rfl)
            · obtain rfl := Option.some.inj ho
              refine .inl ⟨rfl, ?_⟩
              have e64 : a.eval (.tmp 64) = .slice (some ⟨b1, off1, none⟩) L ca := hrd 5 _ 64 rfl rfl (by kernel_rfl) (by kernel_rfl)
              have e65 : a.eval (.tmp 65) = .int .i64 ((m : Nat) : Int) := hrd 6 _ 65 rfl rfl (by kernel_rfl) (by kernel_rfl)
              exact wpv_of (wp_index_row 48 2 _ _ rfl uRowT1 sInt b1 off1 L ca m .i64 e64 e65 (by omega)) (fun _ _ => rfl)
            · obtain rfl := Option.some.inj ho
              refine .inl ⟨rfl, ?_⟩
              have e66 : a.eval (.tmp 66) = .pointer (some ⟨b1, off1 + m, none⟩) := hrd 7 _ 66 rfl rfl (by kernel_rfl) (by kernel_rfl)
              exact wpv_of (wp_load_cell 2 _ rfl _ e66 .i64 uInt _ (((below_step hb hBl).cell hbl1).trans hcm1.out)) (fun _ _ => rfl)
            · obtain rfl := Option.some.inj ho
              refine .inl ⟨rfl, ?_⟩
              have e67 : a.eval (.tmp 67) = .int .i64 (cf xs m) := hrd 8 _ 67 rfl rfl (by kernel_rfl) (by kernel_rfl)
              exact Oper.wp_mono (fun a' w' ⟨v, h1, ⟨g, h2, h3⟩, h4⟩ => ⟨v, h1, h2 ▸ IsRow_one w' g _ h3, h4⟩) (wpv_row_one 48 2 _ rfl uRowT1 sInt zInt1 _ e67)
            · obtain rfl := Option.some.inj ho
              refine .inl ⟨rfl, ?_⟩
              have e60 : a.eval (.tmp 60) = .int .i64 p := hrd 1 _ 60 rfl rfl (by kernel_rfl) (by kernel_rfl)
              have e63 : a.eval (.tmp 63) = (NN 0) := hrd 4 _ 63 rfl rfl (by kernel_rfl) (by kernel_rfl)
              have h68 : (fun v w => IsRow w v ([cf xs m])) (a.eval (.tmp 68)) w2 := hrd 9 _ 68 rfl rfl (by kernel_rfl) (by kernel_rfl)
              generalize e68 : a.eval (.tmp 68) = v68 at h68
              exact wpv_call 46 [.tmp 60, .tmp 63, .tmp 68, .const (.int .i64 1)] _ rfl [.int .i64 p, (NN 0), v68, .int .i64 1] (by simp only [List.map_cons, List.map_nil, e60, e63, e68, eval_const]) Try.call46 (cm0.out _ _ w2 (hM0.out.below hBl) h68)
            · obtain rfl := Option.some.inj ho
              refine .inl ⟨rfl, ?_⟩
              have e59 : a.eval (.tmp 59) = .slice (some ⟨w0.heap.size, 0, none⟩) (n0 + 1) (n0 + 1) := hrd 0 _ 59 rfl rfl (by kernel_rfl) (by kernel_rfl)
              exact wpv_of (wp_index_row1 57 48 _ _ rfl uRowsT sRowT1 (w0.heap.size) (n0 + 1) (n0 + 1) (0) .i64 e59 rfl (by omega)) (fun _ _ => rfl)
            · obtain rfl := Option.some.inj ho
              exact absurd rfl hiZ
            · simp at ho
          intro oZ hoZ vals xG hBx hSx hc0
          obtain rfl := Option.some.inj hoZ
          clear hoZ
          have e0 : vals 0 = .slice (some ⟨w0.heap.size, 0, none⟩) (n0 + 1) (n0 + 1) := hc0 0 (by simp) (by decide)
          have e1 : vals 1 = .int .i64 p := hc0 1 (by simp) (by decide)
          have e2 : vals 2 = .slice (some ⟨w0.heap.size, 0, none⟩) (n0 + 1) (n0 + 1) := hc0 2 (by simp) (by decide)
          have e3 : vals 3 = .pointer (some ⟨w0.heap.size, 0, none⟩) := hc0 3 (by simp) (by decide)
          have e4 : vals 4 = (NN 0) := hc0 4 (by simp) (by decide)
          have e5 : vals 5 = .slice (some ⟨b1, off1, none⟩) L ca := hc0 5 (by simp) (by decide)
          have e6 : vals 6 = .int .i64 ((m : Nat) : Int) := hc0 6 (by simp) (by decide)
          have e7 : vals 7 = .pointer (some ⟨b1, off1 + m, none⟩) := hc0 7 (by simp) (by decide)
          have e8 : vals 8 = .int .i64 (cf xs m) := hc0 8 (by simp) (by decide)
          have cG9 : (fun v w => IsRow w v ([cf xs m])) (vals 9) xG := hc0 9 (by simp) (by decide)
          generalize ev9 : vals 9 = uG9 at cG9
          have cG10 : (fun v w => IsRow w v (M' 0)) (vals 10) xG := hc0 10 (by simp) (by decide)
          generalize ev10 : vals 10 = uG10 at cG10
          have e11 : vals 11 = .pointer (some ⟨w0.heap.size, 0, none⟩) := hc0 11 (by simp) (by decide)
          refine ⟨rfl, ?_⟩
          simp only [List.length_cons, List.length_nil, Nat.zero_add, Nat.reduceAdd, List.replicate, seenAll, Bool.false_eq_true, if_false, putAll, if_true, Act.put, List.setIfInBounds_toArray, List.set_cons_zero, List.set_cons_succ, e0, e1, e2, e3, e4, e5, e6, e7, e8, ev9, ev10, e11]
          replace hN := hN.keep hBx
          replace hb := below_step hb hBx
          clear hc0 hSx e0 e1 e2 e3 e4 e5 e6 e7 e8 ev9 ev10 e11
          have hM1 := show IsRow xG uG10 (M' 0) from cG10
          clear cG9 cG10
          have hR2 := Lib.hid (fun q (hq : q < n0) => ((hR.out q hq).below hBx).setB hN (fun q _ => hNs q) (arr (n0 + 1) (fun q => if q = 0 then uG10 else NN q)))
          have hP2 := Lib.hid (fun q (hq : q < (n0 + 1)) => ((hP.out q hq).below hBx).setB hN (fun q _ => hNs q) (arr (n0 + 1) (fun q => if q = 0 then uG10 else NN q)))
          clear hBx hR
          have hsm := hM1.isSlice
          refine wp_store_arrN 48 _ _ rfl (w0.heap.size) (0) rfl uG10 rfl (n0 + 1) NN _ hN (by omega) sRowT1 (slice_one hsm) ?_
          have hM2 := Lib.hid (hM1.setB hN (fun q _ => hNs q) (arr (n0 + 1) (fun q => if q = 0 then uG10 else NN q)))
          have hNx := hN.setRow_same (cs := arr (n0 + 1) (fun q => if q = 0 then uG10 else NN q))
          have hb2 := below_setRow hb (g := w0.heap.size) hgN (arr (n0 + 1) (fun q => if q = 0 then uG10 else NN q))
          obtain ⟨N4, hNN⟩ : ∃ f : Nat → Value, (fun q => if q = 0 then uG10 else NN q) = f := ⟨_, rfl⟩
          rw [hNN] at hR2 hP2 hM2 hNx hb2 ⊢
          have hNJ : N4 (0) = uG10 := by rw [← hNN]; exact if_pos rfl
          have hNo : ∀ q, q ≠ 0 → N4 q = NN q := fun q hq => by rw [← hNN]; exact if_neg hq
          have hNs2 : ∀ q, ∃ a m c, N4 q = .slice a m c := fun q => by
            by_cases e : q = 0
            · rw [e, hNJ]; exact hsm
            · rw [hNo q e]; exact hNs q
          clear hNN hM1 hN hb
          generalize World.setRow xG (w0.heap.size) (arr (n0 + 1) N4) = vG at *
          rw [← hNJ] at hM2
          go_wp2_with fail
          go_roundw
          case rel =>
            refine ⟨m, N4, by omega, by go_num, Lib.hid ?_, hb2⟩
            rw [hLm, hM2H.out]
            refine ⟨⟨_, rfl, fun _ => ⟨_, rfl, hgN, hNx⟩⟩, fun q hq => ?_⟩
            cases q with
            | zero => exact hM2.out
            | succ q => rw [hNo (q + 1) (by omega), ← hmdSH.out q]; exact hP2.out (q + 1) hq
          case measure => simp [intOf] <;> omega
end Go.Proofs.Ytionaenmjndncab
