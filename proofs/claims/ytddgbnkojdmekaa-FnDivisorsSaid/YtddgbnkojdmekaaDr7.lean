/- Walks: draws of a prime and two polynomials. -/
import Derived.Test.YtddgbnkojdmekaaDr6
import Derived.Test.YtddgbnkojdmekaaInvS
set_option linter.unusedVariables false
set_option linter.unusedSimpArgs false
namespace Go.Proofs.Ytddgbnkojdmekaa
open Go.RowKit
/-- A step of a region that draws from a source and writes into arrays laid in it. -/
structure StB (B g hi : Nat) (w1 w2 : World) : Prop where
  size : hi ≤ w2.heap.size
  os : w2.os = w1.os
  tape : w2.tape = w1.tape
  output : w2.output = w1.output
  same : ∀ k, k < hi → k ≠ g → w2.heap[k]? = w1.heap[k]?
  src : Src B w1 g → Src B w2 g
  arr : ∀ q, hi ≤ q → (∃ f, By f ∧ Blk w1 q (u8s 64 f) 25) → ∃ f, By f ∧ Blk w2 q (u8s 64 f) 25
  grow : w1.heap.size ≤ w2.heap.size
def StA (B g hi : Nat) (w1 w2 : World) : Prop := hi ≤ w1.heap.size → StB B g hi w1 w2
theorem StB.keep {B g hi k : Nat} {w1 w2 : World} {cs : Array Value} {t : TypeId} (h : StB B g hi w1 w2) (hb : Blk w1 k cs t) (hne : some k ≠ some g) (hk : k < hi) : Blk w2 k cs t := by
  unfold Blk; rw [h.same k hk fun e => hne (by rw [e])]; exact hb
theorem StB.below {B g hi : Nat} {w w1 w2 : World} (h : StB B g hi w1 w2) (hb : Below w.heap.size w w1) (hw : w.heap.size ≤ hi := by omega) (hg : w.heap.size ≤ g := by omega) : Below w.heap.size w w2 :=
  ⟨h.os.trans hb.os, h.tape.trans hb.tape, h.output.trans hb.output, Nat.le_trans hb.size h.grow, fun k hk => (h.same k (by omega) (by omega)).trans (hb.block k hk)⟩
theorem StA.refl {B g hi : Nat} (w : World) : StA B g hi w w := fun h => ⟨h, rfl, rfl, rfl, fun _ _ _ => rfl, id, fun _ _ h => h, Nat.le_refl _⟩
theorem StA.trans {B g hi : Nat} (a b c : World) (h : StA B g hi a b) (k : StA B g hi b c) : StA B g hi a c := fun h0 => by
  have h := h h0
  have k := k h.size
  exact ⟨k.size, k.os.trans h.os, k.tape.trans h.tape, k.output.trans h.output, fun q h1 h2 => (k.same q h1 h2).trans (h.same q h1 h2), fun s => k.src (h.src s), fun q h1 h2 => k.arr q h1 (h.arr q h1 h2), Nat.le_trans h.grow k.grow⟩
theorem StA.grown {B g hi : Nat} {w w' : World} (h : w.grownBy w' (some g)) (hs : Src B w' g) (hg : g < hi) : StA B g hi w w' := fun h0 => ⟨Nat.le_trans h0 h.size, h.os, h.tape, h.output, fun k h1 h2 => h.block k (by omega) (fun e => by injection e with e; exact h2 e), fun _ => hs, fun q h1 ⟨f, h2, h3⟩ => ⟨f, h2, h3.grownR h (fun e => by injection e with e; omega)⟩, h.size⟩
theorem StA.of {B g hi : Nat} {w : World} (h0 : hi ≤ w.heap.size) (hg : g < hi) (w' : World) (h : Below w.heap.size w w') : StA B g hi w w' := fun _ => ⟨Nat.le_trans h0 h.size, h.os, h.tape, h.output, fun k h1 _ => h.block k (by omega), fun s => s.below h, fun q _ ⟨f, h2, h3⟩ => ⟨f, h2, h3.keep h⟩, h.size⟩
theorem StA.drew {B g hi : Nat} (w : World) (hg : g < hi) : StA B g hi w w.drew := fun h0 => StA.of h0 hg _ (Below.refl _ _).drew h0
theorem StA.store {B g hi q : Nat} {w : World} {f : Nat → Int} (hq : hi ≤ q) (hg : g < hi) (hf : By f) (hB : ∀ h, Src B w g → B ≤ h → True := fun _ _ _ => trivial) : StA B g hi w (w.setRow q (u8s 64 f)) := fun h0 =>
  ⟨by simpa using h0, rfl, rfl, rfl, fun k h1 _ => setRow_other w q k _ (by omega), fun s => s.step (grown_row w q (u8s 64 f)) (fun k e => by injection e with e; have := s.ge; omega), fun r _ ⟨f', h2, h3⟩ => by
    by_cases e : r = q
    · subst e; exact ⟨f, hf, h3.setRow_same⟩
    · exact ⟨f', h2, h3.setRow_other e⟩, by simp⟩
theorem WpR.imp {R : World → World → Prop} {P : Program} {o : Oper} {a : Act} {w : World} {C C' : Value → World → Prop} {Q : Exit → Act → World → Prop} (h : WpR R P o a w C Q) (hc : ∀ v w', C v w' → R w w' → C' v w') : WpR R P o a w C' Q :=
  Oper.wp_mono (fun _ _ ⟨v, e, hv, hb⟩ => ⟨v, e, hc _ _ hv hb, hb⟩) h
/-- A step of a region that draws from a source. -/
def StR (B g : Nat) (w1 w2 : World) : Prop := w1.grownBy w2 (some g) ∧ (Src B w1 g → Src B w2 g)
theorem grown_drewR (w : World) (row : Option Nat) : w.grownBy w.drew row := ⟨rfl, rfl, rfl, Nat.le_refl _, fun _ _ _ => rfl⟩
theorem StR.drew {B g : Nat} (w : World) : StR B g w w.drew := ⟨grown_drewR w _, fun h => h.step (grown_drewR w none) fun q e => by cases e⟩
theorem StR.refl {B g : Nat} (w : World) : StR B g w w := ⟨World.grownBy.refl _ _, id⟩
theorem StR.trans {B g : Nat} (a b c : World) (h : StR B g a b) (k : StR B g b c) : StR B g a c := ⟨h.1.trans k.1, fun s => k.2 (h.2 s)⟩
theorem StR.of {B g : Nat} {w : World} (w' : World) (h : Below w.heap.size w w') : StR B g w w' := ⟨below_grown h _, fun s => s.below h⟩
theorem wpr_call {R : World → World → Prop} {P : Program} {o : Oper} {a : Act} {w : World} {C : Value → World → Prop} {Q : Exit → Act → World → Prop} (k : Nat) (xs : List Operand) (ts : Array TypeId) (hop : o.op = .call { callee := .value (.func k), args := xs.toArray, argTypes := ts }) (vs : List Value) (hvs : xs.map a.eval = vs)
    (hk : ∀ args w, (callFunc k args).run P w = .ok (.enter k args) w) (hc : Calls P k vs.toArray w fun e w' => ∃ v, e = .returned v ∧ C v w' ∧ R w w') : WpR R P o a w C Q :=
  wp_callF k xs ts hop vs hvs hk (hc.mono fun _ _ ⟨v, h1, h2, h3⟩ => ⟨v, h1, v, rfl, h2, h3⟩)
theorem below_then {w w1 w2 : World} {row : Option Nat} (h : Below w.heap.size w w1) (hg : w1.grownBy w2 row) (hr : ∀ k, row = some k → w.heap.size ≤ k) : Below w.heap.size w w2 := h.grown hg h.size hr
theorem CodeAt.below {w w' : World} {oa : Option Addr} {n : Nat} (h : CodeAt w oa n) (hb : Below w.heap.size w w') : CodeAt w' oa n := fun h0 => by
  obtain ⟨b, o, e1, e2, e3⟩ := h h0
  refine ⟨b, o, e1, Nat.lt_of_lt_of_le e2 hb.size, fun i hi => ?_⟩
  obtain ⟨z, h1, h2⟩ := e3 i hi
  exact ⟨z, cell_below h1 hb, h2⟩
/-- The product of two drawn polynomials. -/
theorem timesD {p : Int} {f h : Nat → Int} (w : World) (hp : Pr p) (hf : Dw p f) (hh : Dw p h) : Calls Try.prog 53 #[.int .i64 p, .agg (u8s 64 f), .agg (u8s 64 h)] w fun e w' => ∃ h d, e = .returned (.tuple #[.agg (u8s 64 h), .bool d]) ∧ By h ∧ Below w.heap.size w w' := by
  have hp2 := hp.pos
  have hG : Good p [f, h] := ⟨hp, fun q hq i _ => by
    simp only [List.mem_cons, List.not_mem_nil, or_false] at hq
    rcases hq with rfl | rfl
    · exact hf.2 (by omega) (by omega) i
    · exact hh.2 (by omega) (by omega) i⟩
  refine (l01Times_arr f h p w (hG.p64 (f := f) (by simp) hf.1) (hG.p64 (f := h) (by simp) hh.1)).mono fun e w' ⟨h1, h2⟩ => ⟨_, _, h1, ?_, h2⟩
  unfold toldF
  split
  · exact fun i => By_of_Po hp (mulp_Po (by omega) _ _) i
  · exact fun _ => ⟨Int.le_refl 0, (by decide : (0 : Int) ≤ 255)⟩
set_option maxRecDepth 20000 in
set_option maxHeartbeats 4000000 in
theorem l01Both_any (oa : Option Addr) (n c : Nat) (w : World) (hnm : n ≤ maxLen) (hc : CodeAt w oa n) :
    Calls Try.prog 27 #[.slice oa n c] w fun e w' => ∃ p f h, e = .returned (.tuple #[.int .i64 p, .agg (u8s 64 f), .agg (u8s 64 h)]) ∧ -3 ≤ p ∧ p ≤ 11 ∧ By f ∧ By h ∧ Below w.heap.size w w' := by
  obtain ⟨hb, hZ3, hZ4⟩ := boxes2 w (u8s 64 fun _ => 0) (u8s 64 fun _ => 0) 25 25
  have hc2 := hc.below hb
  obtain ⟨w0, hw0⟩ : ∃ y, (w.alloc (.cells (u8s 64 fun _ => 0) 25)).alloc (.cells (u8s 64 fun _ => 0) 25) = y := ⟨_, rfl⟩
  have hsz0 : w0.heap.size = w.heap.size + 1 + 1 := by rw [← hw0]; simp
  rw [hw0] at hb hZ3 hZ4 hc2
  have hF := Lib.hid (l01From_any oa n c w0 hnm hc2)
  clear hc hc2 hnm
  go_enter Try.func27, Try.ntmps27
  go_wp2_with ((with_reducible refine wpl_guard ?_); first | (refine wpl_alloc_arr rfl 25 rfl _ zPoly ?_))
  try rw [hw0]
  refine hF.out.mono ?_
  rintro e w1 ⟨g, rfl, hS1, hn⟩
  have hge := hS1.ge
  obtain ⟨B, hBe⟩ : ∃ q, w0.heap.size = q := ⟨_, rfl⟩
  rw [hBe] at hS1 hge
  obtain ⟨g3, hg3⟩ : ∃ q, w.heap.size = q := ⟨_, rfl⟩
  obtain ⟨g4, hg4⟩ : ∃ q, w.heap.size + 1 = q := ⟨_, rfl⟩
  rw [hg3] at hZ3
  rw [hg4] at hZ4 ⊢
  rw [hg3]
  have hn3 : some g3 ≠ some g := fun e => by injection e with e; omega
  have hn4 : some g4 ≠ some g := fun e => by injection e with e; omega
  replace hZ3 := hZ3.keep hn
  replace hZ4 := hZ4.keep hn
  replace hb := below_step hb hn
  have hSp := Lib.hid (l01Spoil_any B g w1 hS1)
  have hS := Lib.hid hS1
  clear hF hn hS1 hw0
  go_wp2_with fail
  refine hSp.out.mono ?_
  rintro e w2 ⟨p, f, rfl, hp0, hp1, hf', hS2, hg2⟩
  replace hZ3 := hZ3.grownR hg2 hn3
  replace hZ4 := hZ4.grownR hg2 hn4
  replace hb := below_then hb hg2 (fun k e => by injection e with e; omega)
  replace hS := Lib.hid hS2
  have hn := below_new w2 (.cells (u8s 64 f) 25)
  have h7 := Blk.new w2 (u8s 64 f) 25
  have hlt2 := hS2.lt
  have h3lt := hZ3.lt
  have h4lt := hZ4.lt
  have hsz2 := hb.size
  replace hZ3 := hZ3.keep hn
  replace hZ4 := hZ4.keep hn
  replace hb := below_step hb hn
  replace hS := Lib.hid (hS2.below hn)
  have hf := Lib.hid hf'
  clear hg2 hS2 hSp hn hf'
  go_upto_region 3 with ((with_reducible refine wpl_guard ?_); first | (refine wpl_alloc_arr rfl 25 rfl _ zPoly ?_) | (refine wpl_store_new rfl 25 _ _ rfl _ rfl rfl _ rfl sPoly (by simp only [u8s_size]) (u8s_oneCell _ _) ?_))
  obtain ⟨g7, hg7⟩ : ∃ q, w2.heap.size = q := ⟨_, rfl⟩
  rw [hg7] at h7 ⊢
  have hn7 : some g7 ≠ some g := fun e => by injection e with e; omega
  have h47 : g4 ≠ g7 := by omega
  have h37 : g3 ≠ g7 := by omega
  generalize w2.alloc (.cells (u8s 64 f) 25) = w4 at *
  obtain ⟨bP, hbP⟩ : ∃ b, decide (Pr p) = b := ⟨_, rfl⟩
  have hPr := Lib.hid (fun w => l01Prime_any p w bP hbP)
  have hbPH := Lib.hid hbP
  clear hbP
  go_wp2_with fail
  refine (hPr.out _).mono ?_
  rintro e w4' ⟨rfl, rfl⟩
  clear hPr
  cases bP
  · have hprO : Pr 2 := .inl rfl
    clear hbPH
    go_upto_region 6 with (fail)
    have hn := below_new w4 (.cells (ints [2, 4, 8, 63]) 2)
    have hP := Lib.hid (l01Pick_any B g w4.heap.size [2, 4, 8, 63] _ (hS.out.below hn) (Blk.new w4 _ _) (by decide) (by have := hS.out.lt; omega) (by decide))
    replace hZ3 := hZ3.keep hn
    replace hZ4 := hZ4.keep hn
    replace h7 := h7.keep hn
    replace hb := below_step hb hn
    clear hn hS
    go_wp2_with fail
    refine hP.out.mono ?_
    rintro e w5 ⟨m, rfl, hm, hS5, hg5⟩
    have hm2 : -1 ≤ m ∧ m ≤ 63 := by
      simp only [List.mem_cons, List.not_mem_nil, or_false] at hm
      omega
    have hD := Lib.hid (l01Draw_any B g 2 m w5 hS5 hm2.1 hm2.2)
    have hS := Lib.hid hS5
    replace hZ3 := hZ3.grownR hg5 hn3
    replace hZ4 := hZ4.grownR hg5 hn4
    replace h7 := h7.grownR hg5 hn7
    replace hb := below_then hb hg5 (fun k e => by injection e with e; omega)
    replace hS := Lib.hid hS5
    clear hg5 hS5 hP hm
    go_wp2_with fail
    refine hD.out.mono ?_
    rintro e w6 ⟨f2, rfl, hf2', hS6, hg6⟩
    replace hZ3 := hZ3.grownR hg6 hn3
    replace hZ4 := hZ4.grownR hg6 hn4
    replace h7 := h7.grownR hg6 hn7
    replace hb := below_then hb hg6 (fun k e => by injection e with e; omega)
    replace hS := Lib.hid hS6
    have hn := below_new w6 (.cells (u8s 64 f2) 25)
    have h9 := Blk.new w6 (u8s 64 f2) 25
    have hlt6 := hS6.lt
    replace hZ3 := hZ3.keep hn
    replace hZ4 := hZ4.keep hn
    have h7lt := h7.lt
    have h3lt := hZ3.lt
    replace h7 := h7.keep hn
    have hsz6 := hb.size
    replace hb := below_step hb hn
    replace hS := Lib.hid (hS6.below hn)
    have hN := Lib.hid (l01Next_any B g 6 _ (hS6.below hn))
    have hf2 := Lib.hid hf2'
    clear hg6 hS6 hD hn hf2'
    go_upto_region 7 with ((with_reducible refine wpl_guard ?_); first | (refine wpl_alloc_arr rfl 25 rfl _ zPoly ?_) | (refine wpl_store_new rfl 25 _ _ rfl _ rfl rfl _ rfl sPoly (by simp only [u8s_size]) (u8s_oneCell _ _) ?_))
    obtain ⟨g9, hg9⟩ : ∃ q, w6.heap.size = q := ⟨_, rfl⟩
    rw [hg9] at h9 ⊢
    have hn9 : some g9 ≠ some g := fun e => by injection e with e; omega
    have h97 : g9 ≠ g7 := by omega
    clear h7lt
    go_wp2_with fail
    refine hN.out.mono ?_
    rintro e w7 ⟨x, rfl, hx0, hx1, hS7, hg7⟩
    replace hZ3 := hZ3.grownR hg7 hn3
    replace hZ4 := hZ4.grownR hg7 hn4
    replace h7 := h7.grownR hg7 hn7
    replace h9 := h9.grownR hg7 hn9
    replace hb := below_then hb hg7 (fun k e => by injection e with e; omega)
    replace hS := Lib.hid hS7
    clear hg7 hS7 hN
    by_cases hx : x = 0
    · go_upto_region 8 with (fail)
      obtain ⟨hi, hhi'⟩ : ∃ q, w7.heap.size = q := ⟨_, rfl⟩
      have hhi : hi ≤ w7.heap.size := by omega
      have hglt : g < hi := by have := hS.out.lt; omega
      have h9hi : g9 < hi := by have := h9.lt; omega
      have h7hi : g7 < hi := by have := h7.lt; omega
      have h3hi : g3 < hi := by have := hZ3.lt; omega
      have h4hi : g4 < hi := by have := hZ4.lt; omega
      go_upto_region 8 with (fail)
      refine gen_guardR (w := _) (StA B g hi) (StA.drew _ hglt) StA.refl StA.trans (by kernel_rfl) (by kernel_rfl) (by kernel_rfl)
        (fun i => ([fun v w => v = .int .i64 2, fun v w => v = .agg (u8s 64 f2), fun v w => v = .pointer (some ⟨g, 0, none⟩), fun v w => v = .int .i64 2, fun v w => ∃ h, v = .agg (u8s 64 h) ∧ Dw 2 h, fun v w => ∃ h d, v = .tuple #[.agg (u8s 64 h), .bool d] ∧ By h, fun v w => ∃ h d, v = .tuple #[.agg (u8s 64 h), .bool d] ∧ By h, fun v w => ∃ h, v = .agg (u8s 64 h) ∧ By h, fun v w => ∃ d, v = .bool d, fun v w => ∃ q, v = .pointer (some ⟨q, 0, none⟩) ∧ hi ≤ q ∧ hi ≤ w.heap.size ∧ ∃ f, By f ∧ Blk w q (u8s 64 f) 25, fun v w => True, fun v w => ∃ d, v = .bool d] : List (Value → World → Prop)).getD i (fun _ _ => True))
        (fun w' => hi ≤ w'.heap.size ∧ Src B w' g ∧ Blk w' g9 (u8s 64 f2) 25 ∧ Blk w' g7 (u8s 64 f) 25 ∧ Blk w' g3 (u8s 64 (fun _ => 0)) 25 ∧ Blk w' g4 (u8s 64 (fun _ => 0)) 25 ∧ True) ⟨hhi, hS.out.step (grown_drewR _ none) (fun q e => by cases e), h9.drew, h7.drew, hZ3.drew, hZ4.drew, trivial⟩ (fun w1 w2 h hb => ⟨(hb h.1).size, (hb h.1).src h.2.1, (hb h.1).keep h.2.2.1 hn9 h9hi, (hb h.1).keep h.2.2.2.1 hn7 h7hi, (hb h.1).keep h.2.2.2.2.1 hn3 h3hi, (hb h.1).keep h.2.2.2.2.2.1 hn4 h4hi, trivial⟩) ?_ ?_ ?_
      · intro i v w1 w2 h hb
        rcases i with _|_|_|_|_|_|_|_|_|_|_|_|i
        · exact h
        · exact h
        · exact h
        · exact h
        · exact h
        · exact h
        · exact h
        · exact h
        · exact h
        · obtain ⟨q, h1, h2, h4, h3⟩ := h; exact ⟨q, h1, h2, (hb h4).size, (hb h4).arr q h2 h3⟩
        · exact h
        · exact h
        · exact h
      · intro i o ho a w2 hR hSx hrd hpar
        rcases i with _|_|_|_|_|_|_|_|_|_|_|_|i
        · obtain rfl := Option.some.inj ho
          refine .inl ⟨rfl, ?_⟩
          have e8 : a.eval (.tmp 8) = .int .i64 2 := hpar 8 _ (by kernel_rfl) (by kernel_rfl)
          refine WpV.toR (wpv_of (wp_move _ _ rfl e8) (fun _ _ => rfl)) (StA.of hSx.1 hglt)
        · obtain rfl := Option.some.inj ho
          refine .inl ⟨rfl, ?_⟩
          refine WpV.toR (wpv_of (wp_loadB 25 _ rfl _ (hpar 9 (.pointer (some ⟨g9, 0, none⟩)) (by kernel_rfl) (by kernel_rfl)) _ _ hSx.2.2.1 _ _ uPoly sPoly) (fun _ _ => rfl)) (StA.of hSx.1 hglt)
        · obtain rfl := Option.some.inj ho
          refine .inl ⟨rfl, ?_⟩
          have e5 : a.eval (.tmp 5) = .pointer (some ⟨g, 0, none⟩) := hpar 5 _ (by kernel_rfl) (by kernel_rfl)
          refine WpV.toR (wpv_of (wp_move _ _ rfl e5) (fun _ _ => rfl)) (StA.of hSx.1 hglt)
        · obtain rfl := Option.some.inj ho
          refine .inl ⟨rfl, ?_⟩
          have e8 : a.eval (.tmp 8) = .int .i64 2 := hpar 8 _ (by kernel_rfl) (by kernel_rfl)
          refine WpV.toR (wpv_of (wp_move _ _ rfl e8) (fun _ _ => rfl)) (StA.of hSx.1 hglt)
        · obtain rfl := Option.some.inj ho
          refine .inl ⟨rfl, ?_⟩
          have e35 : a.eval (.tmp 35) = .pointer (some ⟨g, 0, none⟩) := hrd 2 _ 35 rfl rfl (by kernel_rfl) (by kernel_rfl)
          have e36 : a.eval (.tmp 36) = .int .i64 2 := hrd 3 _ 36 rfl rfl (by kernel_rfl) (by kernel_rfl)
          exact wpr_call 50 [.tmp 35, .tmp 36, .const (.int .i64 4)] _ rfl [.pointer (some ⟨g, 0, none⟩), .int .i64 2, .int .i64 4] (by simp only [List.map_cons, List.map_nil, e35, e36, eval_const]) Try.call50 ((l01Draw_any B g 2 4 w2 hSx.2.1 (by decide) (by decide)).mono fun _ _ ⟨f, h1, h2, h3, h4⟩ => ⟨_, h1, ⟨f, rfl, h2⟩, StA.grown h4 h3 hglt⟩)
        · obtain rfl := Option.some.inj ho
          refine .inl ⟨rfl, ?_⟩
          have e33 : a.eval (.tmp 33) = .int .i64 2 := hrd 0 _ 33 rfl rfl (by kernel_rfl) (by kernel_rfl)
          have e34 : a.eval (.tmp 34) = .agg (u8s 64 f2) := hrd 1 _ 34 rfl rfl (by kernel_rfl) (by kernel_rfl)
          obtain ⟨h, e37, hd⟩ : ∃ h, a.eval (.tmp 37) = .agg (u8s 64 h) ∧ Dw 2 h := hrd 4 _ 37 rfl rfl (by kernel_rfl) (by kernel_rfl)
          have ht := timesD w2 hprO hf2.out hd
          refine WpV.toR (wpv_call 53 [.tmp 33, .tmp 34, .tmp 37] _ rfl [.int .i64 2, .agg (u8s 64 f2), .agg (u8s 64 h)] (by simp only [List.map_cons, List.map_nil, e33, e34, e37]) Try.call53 (ht.mono fun _ _ ⟨h, d, h1, h2, h3⟩ => ⟨_, h1, ⟨h, d, rfl, h2⟩, h3⟩)) (StA.of hSx.1 hglt)
        · obtain rfl := Option.some.inj ho
          refine .inl ⟨rfl, ?_⟩
          obtain ⟨h, d, e38, hd⟩ : ∃ h d, a.eval (.tmp 38) = .tuple #[.agg (u8s 64 h), .bool d] ∧ By h := hrd 5 _ 38 rfl rfl (by kernel_rfl) (by kernel_rfl)
          refine WpV.toR (wpv_of (wp_move _ _ rfl e38) (fun _ _ => ⟨h, d, rfl, hd⟩)) (StA.of hSx.1 hglt)
        · obtain rfl := Option.some.inj ho
          refine .inl ⟨rfl, ?_⟩
          obtain ⟨h, d, e32, hd⟩ : ∃ h d, a.eval (.tmp 32) = .tuple #[.agg (u8s 64 h), .bool d] ∧ By h := hrd 6 _ 32 rfl rfl (by kernel_rfl) (by kernel_rfl)
          refine WpV.toR (wpv_of (wp_extract _ 0 #[.agg (u8s 64 h), .bool d] _ rfl e32 rfl) (fun _ _ => ⟨h, rfl, hd⟩)) (StA.of hSx.1 hglt)
        · obtain rfl := Option.some.inj ho
          refine .inl ⟨rfl, ?_⟩
          obtain ⟨h, d, e32, hd⟩ : ∃ h d, a.eval (.tmp 32) = .tuple #[.agg (u8s 64 h), .bool d] ∧ By h := hrd 6 _ 32 rfl rfl (by kernel_rfl) (by kernel_rfl)
          refine WpV.toR (wpv_of (wp_extract _ 1 #[.agg (u8s 64 h), .bool d] _ rfl e32 rfl) (fun _ _ => ⟨d, rfl⟩)) (StA.of hSx.1 hglt)
        · obtain rfl := Option.some.inj ho
          refine .inl ⟨rfl, ?_⟩
          refine WpR.imp (WpV.toR (wpv_alloc 25 rfl _ zPoly hi hSx.1) (StA.of hSx.1 hglt)) ?_
          rintro v w' ⟨q, h1, h2, h3⟩ hb
          exact ⟨q, h1, h2, (hb hSx.1).size, _, fun _ => ⟨Int.le_refl 0, (by decide : (0 : Int) ≤ 255)⟩, h3⟩
        · obtain rfl := Option.some.inj ho
          refine .inl ⟨rfl, ?_⟩
          obtain ⟨q, e10, h2, h4, fq, hfq, hq⟩ : ∃ q, a.eval (.tmp 10) = .pointer (some ⟨q, 0, none⟩) ∧ hi ≤ q ∧ hi ≤ w2.heap.size ∧ ∃ f, By f ∧ Blk w2 q (u8s 64 f) 25 := hrd 9 _ 10 rfl rfl (by kernel_rfl) (by kernel_rfl)
          obtain ⟨hh, e39, hhb⟩ : ∃ h, a.eval (.tmp 39) = .agg (u8s 64 h) ∧ By h := hrd 7 _ 39 rfl rfl (by kernel_rfl) (by kernel_rfl)
          refine wp_store_arr 25 _ _ rfl q e10 (u8s 64 hh) e39 (u8s 64 fq) _ hq sPoly (by simp only [u8s_size]) (u8s_oneCell _ _) ?_
          exact ⟨_, rfl, trivial, StA.store h2 hglt hhb⟩
        · obtain rfl := Option.some.inj ho
          refine .inl ⟨rfl, ?_⟩
          obtain ⟨d, e40⟩ : ∃ d, a.eval (.tmp 40) = .bool d := hrd 8 _ 40 rfl rfl (by kernel_rfl) (by kernel_rfl)
          refine WpV.toR (wpv_of (wp_assign _ _ rfl e40) (fun _ _ => ⟨d, rfl⟩)) (StA.of hSx.1 hglt)
        · simp at ho
      intro vals xD hR hSx hc0
      obtain ⟨d, e11⟩ : ∃ d, vals 11 = .bool d := hc0 11 (by simp)
      obtain ⟨g10, e9, hlo10, _, h, hh, h10⟩ : ∃ q, vals 9 = .pointer (some ⟨q, 0, none⟩) ∧ hi ≤ q ∧ hi ≤ xD.heap.size ∧ ∃ f, By f ∧ Blk xD q (u8s 64 f) 25 := hc0 9 (by simp)
      simp only [List.length_cons, List.length_nil, Nat.zero_add, Nat.reduceAdd, List.replicate, seen2, Bool.false_eq_true, if_false, putAll, if_true, Act.put, List.setIfInBounds_toArray, List.set_cons_zero, List.set_cons_succ, e11, e9]
      replace h9 := hSx.2.2.1
      replace h7 := hSx.2.2.2.1
      replace hZ3 := hSx.2.2.2.2.1
      replace hZ4 := hSx.2.2.2.2.2.1
      replace hb := (hR hhi).below hb
      have hn10 : some g10 ≠ some g := fun e => by injection e with e; omega
      have hlt10 := h10.lt
      replace hS := Lib.hid hSx.2.1
      generalize xD = y8 at *
      obtain ⟨bI, hbI⟩ : ∃ b, decide ((∀ i : Nat, i < 64 → h i < 2) ∧ Pr 2) = b := ⟨_, rfl⟩
      have hIs := Lib.hid (fun w => l01Is_any h 2 w (fun i _ => hh i) bI hbI)
      have hhH := Lib.hid hh
      clear hc0 hSx hR e11 e9 hh hbI
      cases d
      · go_upto_region 11 with (fail)
        go_upto_region 11 with (fail)
        refine gen_last2R (w := _) (StR B g) (StR.drew _) StR.refl StR.trans (by kernel_rfl) (by kernel_rfl) (by kernel_rfl) 7 8 (by kernel_rfl)
          (fun i => ([fun v w => v = .int .i64 p, fun v w => v = .agg (u8s 64 f), fun v w => v = .pointer (some ⟨g, 0, none⟩), fun v w => v = .int .i64 2, fun v w => v = .agg (u8s 64 f2), fun v w => ∃ h, v = .agg (u8s 64 h) ∧ By h, fun v w => v = .int .i64 p, fun _ _ => True, fun _ _ => True] : List (Value → World → Prop)).getD i (fun _ _ => True))
          (fun w' => Src B w' g ∧ Blk w' g7 (u8s 64 f) 25 ∧ Blk w' g9 (u8s 64 f2) 25 ∧ Blk w' g3 (u8s 64 (fun _ => 0)) 25 ∧ Blk w' g4 (u8s 64 (fun _ => 0)) 25 ∧ True) ⟨hS.out.step (grown_drewR _ none) (fun q e => by cases e), h7.drew, h9.drew, hZ3.drew, hZ4.drew, trivial⟩ (fun w1 w2 h hb => ⟨hb.2 h.1, h.2.1.grownR hb.1 hn7, h.2.2.1.grownR hb.1 hn9, h.2.2.2.1.grownR hb.1 hn3, h.2.2.2.2.1.grownR hb.1 hn4, trivial⟩) ?_ ?_ ?_
        · intro i v w1 w2 h hb
          rcases i with _|_|_|_|_|_|_|_|_|i
          · exact h
          · exact h
          · exact h
          · exact h
          · exact h
          · exact h
          · exact h
          · exact h
          · exact h
          · exact h
        · intro i o ho hiZ hiZ2 a w2 hR hSx hrd hpar
          rcases i with _|_|_|_|_|_|_|_|_|i
          · obtain rfl := Option.some.inj ho
            refine .inl ⟨rfl, ?_⟩
            have e6 : a.eval (.tmp 6) = .int .i64 p := hpar 6 _ (by kernel_rfl) (by kernel_rfl)
            refine WpV.toR (wpv_of (wp_move _ _ rfl e6) (fun _ _ => rfl)) StR.of
          · obtain rfl := Option.some.inj ho
            refine .inl ⟨rfl, ?_⟩
            refine WpV.toR (wpv_of (wp_loadB 25 _ rfl _ (hpar 7 (.pointer (some ⟨g7, 0, none⟩)) (by kernel_rfl) (by kernel_rfl)) _ _ hSx.2.1 _ _ uPoly sPoly) (fun _ _ => rfl)) StR.of
          · obtain rfl := Option.some.inj ho
            refine .inl ⟨rfl, ?_⟩
            have e5 : a.eval (.tmp 5) = .pointer (some ⟨g, 0, none⟩) := hpar 5 _ (by kernel_rfl) (by kernel_rfl)
            refine WpV.toR (wpv_of (wp_move _ _ rfl e5) (fun _ _ => rfl)) StR.of
          · obtain rfl := Option.some.inj ho
            refine .inl ⟨rfl, ?_⟩
            have e8 : a.eval (.tmp 8) = .int .i64 2 := hpar 8 _ (by kernel_rfl) (by kernel_rfl)
            refine WpV.toR (wpv_of (wp_move _ _ rfl e8) (fun _ _ => rfl)) StR.of
          · obtain rfl := Option.some.inj ho
            refine .inl ⟨rfl, ?_⟩
            refine WpV.toR (wpv_of (wp_loadB 25 _ rfl _ (hpar 9 (.pointer (some ⟨g9, 0, none⟩)) (by kernel_rfl) (by kernel_rfl)) _ _ hSx.2.2.1 _ _ uPoly sPoly) (fun _ _ => rfl)) StR.of
          · obtain rfl := Option.some.inj ho
            refine .inl ⟨rfl, ?_⟩
            have e50 : a.eval (.tmp 50) = .pointer (some ⟨g, 0, none⟩) := hrd 2 _ 50 rfl rfl (by kernel_rfl) (by kernel_rfl)
            have e51 : a.eval (.tmp 51) = .int .i64 2 := hrd 3 _ 51 rfl rfl (by kernel_rfl) (by kernel_rfl)
            have e52 : a.eval (.tmp 52) = .agg (u8s 64 f2) := hrd 4 _ 52 rfl rfl (by kernel_rfl) (by kernel_rfl)
            exact wpr_call 55 [.tmp 50, .tmp 51, .tmp 52] _ rfl [.pointer (some ⟨g, 0, none⟩), .int .i64 2, .agg (u8s 64 f2)] (by simp only [List.map_cons, List.map_nil, e50, e51, e52]) Try.call55 ((l01Bad_any B g 2 f2 w2 hSx.1 hf2.out.1).mono fun _ _ ⟨f, h1, h2, h3, h4⟩ => ⟨_, h1, ⟨f, rfl, h2⟩, h4, fun _ => h3⟩)
          · obtain rfl := Option.some.inj ho
            refine .inl ⟨rfl, ?_⟩
            have e48 : a.eval (.tmp 48) = .int .i64 p := hrd 0 _ 48 rfl rfl (by kernel_rfl) (by kernel_rfl)
            refine WpV.toR (wpv_of (wp_assign _ _ rfl e48) (fun _ _ => rfl)) StR.of
          · obtain rfl := Option.some.inj ho
            exact absurd rfl hiZ
          · obtain rfl := Option.some.inj ho
            exact absurd rfl hiZ2
          · simp at ho
        intro oZ oZ2 hoZ hoZ2 vals xE hR hSx hc0
        obtain rfl := Option.some.inj hoZ
        obtain rfl := Option.some.inj hoZ2
        clear hoZ hoZ2
        have e1 := hc0 1 (by simp) (by decide) (by decide)
        have e6 := hc0 6 (by simp) (by decide) (by decide)
        obtain ⟨f3, e5, hf3⟩ : ∃ h, vals 5 = .agg (u8s 64 h) ∧ By h := hc0 5 (by simp) (by decide) (by decide)
        have e0 := hc0 0 (by simp) (by decide) (by decide)
        have e2 := hc0 2 (by simp) (by decide) (by decide)
        have e3 := hc0 3 (by simp) (by decide) (by decide)
        have e4 := hc0 4 (by simp) (by decide) (by decide)
        simp only [List.getD_cons_zero, List.getD_cons_succ] at e0 e1 e2 e3 e4 e6
        have hz3 := hSx.2.2.2.1
        have hz4 := hSx.2.2.2.2.1
        have hb2 := below_then hb hR.1 (fun k e => by injection e with e; omega)
        clear hc0 hSx h7 h9 hZ3 hZ4 hS hR hb
        refine ⟨rfl, rfl, ?_⟩
        simp only [List.length_cons, List.length_nil, Nat.zero_add, Nat.reduceAdd, List.replicate, seen2, Bool.false_eq_true, if_false, putAll, if_true, Act.put, List.setIfInBounds_toArray, List.set_cons_zero, List.set_cons_succ, e0, e1, e2, e3, e4, e5, e6]
        clear e0 e1 e2 e3 e4 e5 e6
        refine wp_store_arr 25 _ _ rfl g3 rfl (u8s 64 f) rfl (u8s 64 fun _ => 0) _ hz3 sPoly (by simp only [u8s_size]) (u8s_oneCell _ _) ?_
        refine wp_store_arr 25 _ _ rfl g4 rfl (u8s 64 f3) rfl (u8s 64 fun _ => 0) _ (hz4.setRow_other (g := g3) (by omega)) sPoly (by simp only [u8s_size]) (u8s_oneCell _ _) ?_
        go_wp2_with fail
        have hr3 := (hz3.setRow_same (cs := u8s 64 f)).setRow_other (g := g4) (cs := u8s 64 f3) (by omega)
        have hr4 := (hz4.setRow_other (g := g3) (cs := u8s 64 f) (by omega)).setRow_same (cs := u8s 64 f3)
        exact bodyPost_ret (res_tcc (x := .int .i64 p) rfl rfl hr3 uPoly sPoly rfl hr4 uPoly sPoly rfl) rfl ⟨_, _, _, rfl, hp0, hp1, hf.out, hf3, below_setRow (below_setRow hb2 (by omega) _) (by omega) _⟩
      · go_wp2_with ((with_reducible refine wpl_guard ?_); first | (refine wpl_load_arr rfl 25 _ rfl _ rfl _ _ h10 _ _ uPoly sPoly ?_))
        refine (hIs.out _).mono ?_
        rintro e w8 ⟨rfl, hn⟩
        replace h10 := h10.keep hn
        replace h9 := h9.keep hn
        replace h7 := h7.keep hn
        replace hZ3 := hZ3.keep hn
        replace hZ4 := hZ4.keep hn
        replace hS := Lib.hid (hS.out.below hn)
        replace hb := below_step hb hn
        clear hn hIs
        cases bI
        · go_upto_region 11 with (fail)
          go_upto_region 11 with (fail)
          refine gen_last2R (w := _) (StR B g) (StR.drew _) StR.refl StR.trans (by kernel_rfl) (by kernel_rfl) (by kernel_rfl) 7 8 (by kernel_rfl)
            (fun i => ([fun v w => v = .int .i64 p, fun v w => v = .agg (u8s 64 f), fun v w => v = .pointer (some ⟨g, 0, none⟩), fun v w => v = .int .i64 2, fun v w => v = .agg (u8s 64 f2), fun v w => ∃ h, v = .agg (u8s 64 h) ∧ By h, fun v w => v = .int .i64 p, fun _ _ => True, fun _ _ => True] : List (Value → World → Prop)).getD i (fun _ _ => True))
            (fun w' => Src B w' g ∧ Blk w' g7 (u8s 64 f) 25 ∧ Blk w' g9 (u8s 64 f2) 25 ∧ Blk w' g3 (u8s 64 (fun _ => 0)) 25 ∧ Blk w' g4 (u8s 64 (fun _ => 0)) 25 ∧ True) ⟨hS.out.step (grown_drewR _ none) (fun q e => by cases e), h7.drew, h9.drew, hZ3.drew, hZ4.drew, trivial⟩ (fun w1 w2 h hb => ⟨hb.2 h.1, h.2.1.grownR hb.1 hn7, h.2.2.1.grownR hb.1 hn9, h.2.2.2.1.grownR hb.1 hn3, h.2.2.2.2.1.grownR hb.1 hn4, trivial⟩) ?_ ?_ ?_
          · intro i v w1 w2 h hb
            rcases i with _|_|_|_|_|_|_|_|_|i
            · exact h
            · exact h
            · exact h
            · exact h
            · exact h
            · exact h
            · exact h
            · exact h
            · exact h
            · exact h
          · intro i o ho hiZ hiZ2 a w2 hR hSx hrd hpar
            rcases i with _|_|_|_|_|_|_|_|_|i
            · obtain rfl := Option.some.inj ho
              refine .inl ⟨rfl, ?_⟩
              have e6 : a.eval (.tmp 6) = .int .i64 p := hpar 6 _ (by kernel_rfl) (by kernel_rfl)
              refine WpV.toR (wpv_of (wp_move _ _ rfl e6) (fun _ _ => rfl)) StR.of
            · obtain rfl := Option.some.inj ho
              refine .inl ⟨rfl, ?_⟩
              refine WpV.toR (wpv_of (wp_loadB 25 _ rfl _ (hpar 7 (.pointer (some ⟨g7, 0, none⟩)) (by kernel_rfl) (by kernel_rfl)) _ _ hSx.2.1 _ _ uPoly sPoly) (fun _ _ => rfl)) StR.of
            · obtain rfl := Option.some.inj ho
              refine .inl ⟨rfl, ?_⟩
              have e5 : a.eval (.tmp 5) = .pointer (some ⟨g, 0, none⟩) := hpar 5 _ (by kernel_rfl) (by kernel_rfl)
              refine WpV.toR (wpv_of (wp_move _ _ rfl e5) (fun _ _ => rfl)) StR.of
            · obtain rfl := Option.some.inj ho
              refine .inl ⟨rfl, ?_⟩
              have e8 : a.eval (.tmp 8) = .int .i64 2 := hpar 8 _ (by kernel_rfl) (by kernel_rfl)
              refine WpV.toR (wpv_of (wp_move _ _ rfl e8) (fun _ _ => rfl)) StR.of
            · obtain rfl := Option.some.inj ho
              refine .inl ⟨rfl, ?_⟩
              refine WpV.toR (wpv_of (wp_loadB 25 _ rfl _ (hpar 9 (.pointer (some ⟨g9, 0, none⟩)) (by kernel_rfl) (by kernel_rfl)) _ _ hSx.2.2.1 _ _ uPoly sPoly) (fun _ _ => rfl)) StR.of
            · obtain rfl := Option.some.inj ho
              refine .inl ⟨rfl, ?_⟩
              have e50 : a.eval (.tmp 50) = .pointer (some ⟨g, 0, none⟩) := hrd 2 _ 50 rfl rfl (by kernel_rfl) (by kernel_rfl)
              have e51 : a.eval (.tmp 51) = .int .i64 2 := hrd 3 _ 51 rfl rfl (by kernel_rfl) (by kernel_rfl)
              have e52 : a.eval (.tmp 52) = .agg (u8s 64 f2) := hrd 4 _ 52 rfl rfl (by kernel_rfl) (by kernel_rfl)
              exact wpr_call 55 [.tmp 50, .tmp 51, .tmp 52] _ rfl [.pointer (some ⟨g, 0, none⟩), .int .i64 2, .agg (u8s 64 f2)] (by simp only [List.map_cons, List.map_nil, e50, e51, e52]) Try.call55 ((l01Bad_any B g 2 f2 w2 hSx.1 hf2.out.1).mono fun _ _ ⟨f, h1, h2, h3, h4⟩ => ⟨_, h1, ⟨f, rfl, h2⟩, h4, fun _ => h3⟩)
            · obtain rfl := Option.some.inj ho
              refine .inl ⟨rfl, ?_⟩
              have e48 : a.eval (.tmp 48) = .int .i64 p := hrd 0 _ 48 rfl rfl (by kernel_rfl) (by kernel_rfl)
              refine WpV.toR (wpv_of (wp_assign _ _ rfl e48) (fun _ _ => rfl)) StR.of
            · obtain rfl := Option.some.inj ho
              exact absurd rfl hiZ
            · obtain rfl := Option.some.inj ho
              exact absurd rfl hiZ2
            · simp at ho
          intro oZ oZ2 hoZ hoZ2 vals xE hR hSx hc0
          obtain rfl := Option.some.inj hoZ
          obtain rfl := Option.some.inj hoZ2
          clear hoZ hoZ2
          have e1 := hc0 1 (by simp) (by decide) (by decide)
          have e6 := hc0 6 (by simp) (by decide) (by decide)
          obtain ⟨f3, e5, hf3⟩ : ∃ h, vals 5 = .agg (u8s 64 h) ∧ By h := hc0 5 (by simp) (by decide) (by decide)
          have e0 := hc0 0 (by simp) (by decide) (by decide)
          have e2 := hc0 2 (by simp) (by decide) (by decide)
          have e3 := hc0 3 (by simp) (by decide) (by decide)
          have e4 := hc0 4 (by simp) (by decide) (by decide)
          simp only [List.getD_cons_zero, List.getD_cons_succ] at e0 e1 e2 e3 e4 e6
          have hz3 := hSx.2.2.2.1
          have hz4 := hSx.2.2.2.2.1
          have hb2 := below_then hb hR.1 (fun k e => by injection e with e; omega)
          clear hc0 hSx h7 h9 hZ3 hZ4 hS hR hb
          refine ⟨rfl, rfl, ?_⟩
          simp only [List.length_cons, List.length_nil, Nat.zero_add, Nat.reduceAdd, List.replicate, seen2, Bool.false_eq_true, if_false, putAll, if_true, Act.put, List.setIfInBounds_toArray, List.set_cons_zero, List.set_cons_succ, e0, e1, e2, e3, e4, e5, e6]
          clear e0 e1 e2 e3 e4 e5 e6
          refine wp_store_arr 25 _ _ rfl g3 rfl (u8s 64 f) rfl (u8s 64 fun _ => 0) _ hz3 sPoly (by simp only [u8s_size]) (u8s_oneCell _ _) ?_
          refine wp_store_arr 25 _ _ rfl g4 rfl (u8s 64 f3) rfl (u8s 64 fun _ => 0) _ (hz4.setRow_other (g := g3) (by omega)) sPoly (by simp only [u8s_size]) (u8s_oneCell _ _) ?_
          go_wp2_with fail
          have hr3 := (hz3.setRow_same (cs := u8s 64 f)).setRow_other (g := g4) (cs := u8s 64 f3) (by omega)
          have hr4 := (hz4.setRow_other (g := g3) (cs := u8s 64 f) (by omega)).setRow_same (cs := u8s 64 f3)
          exact bodyPost_ret (res_tcc (x := .int .i64 p) rfl rfl hr3 uPoly sPoly rfl hr4 uPoly sPoly rfl) rfl ⟨_, _, _, rfl, hp0, hp1, hf.out, hf3, below_setRow (below_setRow hb2 (by omega) _) (by omega) _⟩
        · go_upto_region 11 with ((with_reducible refine wpl_guard ?_); first | (refine wpl_load_arr rfl 25 _ rfl _ rfl _ _ h10 _ _ uPoly sPoly ?_) | (refine wpl_store_arr rfl 25 _ _ rfl _ rfl _ rfl _ _ h7 sPoly (by simp only [u8s_size]) (u8s_oneCell _ _) ?_))
          replace hS := Lib.hid (hS.out.step (grown_row w8 g7 (u8s 64 h)) (fun q e => by injection e with e; omega))
          replace h9 := h9.setRow_other (g := g7) (cs := u8s 64 h) h97
          replace hZ3 := hZ3.setRow_other (g := g7) (cs := u8s 64 h) h37
          replace hZ4 := hZ4.setRow_other (g := g7) (cs := u8s 64 h) h47
          replace hb := below_setRow hb (g := g7) (by omega) (u8s 64 h)
          replace h7 := h7.setRow_same (cs := u8s 64 h)
          generalize w8.setRow g7 (u8s 64 h) = y9 at *
          go_upto_region 11 with (fail)
          refine gen_last2R (w := _) (StR B g) (StR.drew _) StR.refl StR.trans (by kernel_rfl) (by kernel_rfl) (by kernel_rfl) 7 8 (by kernel_rfl)
            (fun i => ([fun v w => v = .int .i64 p, fun v w => v = .agg (u8s 64 h), fun v w => v = .pointer (some ⟨g, 0, none⟩), fun v w => v = .int .i64 2, fun v w => v = .agg (u8s 64 f2), fun v w => ∃ h, v = .agg (u8s 64 h) ∧ By h, fun v w => v = .int .i64 p, fun _ _ => True, fun _ _ => True] : List (Value → World → Prop)).getD i (fun _ _ => True))
            (fun w' => Src B w' g ∧ Blk w' g7 (u8s 64 h) 25 ∧ Blk w' g9 (u8s 64 f2) 25 ∧ Blk w' g3 (u8s 64 (fun _ => 0)) 25 ∧ Blk w' g4 (u8s 64 (fun _ => 0)) 25 ∧ True) ⟨hS.out.step (grown_drewR _ none) (fun q e => by cases e), h7.drew, h9.drew, hZ3.drew, hZ4.drew, trivial⟩ (fun w1 w2 h hb => ⟨hb.2 h.1, h.2.1.grownR hb.1 hn7, h.2.2.1.grownR hb.1 hn9, h.2.2.2.1.grownR hb.1 hn3, h.2.2.2.2.1.grownR hb.1 hn4, trivial⟩) ?_ ?_ ?_
          · intro i v w1 w2 h hb
            rcases i with _|_|_|_|_|_|_|_|_|i
            · exact h
            · exact h
            · exact h
            · exact h
            · exact h
            · exact h
            · exact h
            · exact h
            · exact h
            · exact h
          · intro i o ho hiZ hiZ2 a w2 hR hSx hrd hpar
            rcases i with _|_|_|_|_|_|_|_|_|i
            · obtain rfl := Option.some.inj ho
              refine .inl ⟨rfl, ?_⟩
              have e6 : a.eval (.tmp 6) = .int .i64 p := hpar 6 _ (by kernel_rfl) (by kernel_rfl)
              refine WpV.toR (wpv_of (wp_move _ _ rfl e6) (fun _ _ => rfl)) StR.of
            · obtain rfl := Option.some.inj ho
              refine .inl ⟨rfl, ?_⟩
              refine WpV.toR (wpv_of (wp_loadB 25 _ rfl _ (hpar 7 (.pointer (some ⟨g7, 0, none⟩)) (by kernel_rfl) (by kernel_rfl)) _ _ hSx.2.1 _ _ uPoly sPoly) (fun _ _ => rfl)) StR.of
            · obtain rfl := Option.some.inj ho
              refine .inl ⟨rfl, ?_⟩
              have e5 : a.eval (.tmp 5) = .pointer (some ⟨g, 0, none⟩) := hpar 5 _ (by kernel_rfl) (by kernel_rfl)
              refine WpV.toR (wpv_of (wp_move _ _ rfl e5) (fun _ _ => rfl)) StR.of
            · obtain rfl := Option.some.inj ho
              refine .inl ⟨rfl, ?_⟩
              have e8 : a.eval (.tmp 8) = .int .i64 2 := hpar 8 _ (by kernel_rfl) (by kernel_rfl)
              refine WpV.toR (wpv_of (wp_move _ _ rfl e8) (fun _ _ => rfl)) StR.of
            · obtain rfl := Option.some.inj ho
              refine .inl ⟨rfl, ?_⟩
              refine WpV.toR (wpv_of (wp_loadB 25 _ rfl _ (hpar 9 (.pointer (some ⟨g9, 0, none⟩)) (by kernel_rfl) (by kernel_rfl)) _ _ hSx.2.2.1 _ _ uPoly sPoly) (fun _ _ => rfl)) StR.of
            · obtain rfl := Option.some.inj ho
              refine .inl ⟨rfl, ?_⟩
              have e50 : a.eval (.tmp 50) = .pointer (some ⟨g, 0, none⟩) := hrd 2 _ 50 rfl rfl (by kernel_rfl) (by kernel_rfl)
              have e51 : a.eval (.tmp 51) = .int .i64 2 := hrd 3 _ 51 rfl rfl (by kernel_rfl) (by kernel_rfl)
              have e52 : a.eval (.tmp 52) = .agg (u8s 64 f2) := hrd 4 _ 52 rfl rfl (by kernel_rfl) (by kernel_rfl)
              exact wpr_call 55 [.tmp 50, .tmp 51, .tmp 52] _ rfl [.pointer (some ⟨g, 0, none⟩), .int .i64 2, .agg (u8s 64 f2)] (by simp only [List.map_cons, List.map_nil, e50, e51, e52]) Try.call55 ((l01Bad_any B g 2 f2 w2 hSx.1 hf2.out.1).mono fun _ _ ⟨f, h1, h2, h3, h4⟩ => ⟨_, h1, ⟨f, rfl, h2⟩, h4, fun _ => h3⟩)
            · obtain rfl := Option.some.inj ho
              refine .inl ⟨rfl, ?_⟩
              have e48 : a.eval (.tmp 48) = .int .i64 p := hrd 0 _ 48 rfl rfl (by kernel_rfl) (by kernel_rfl)
              refine WpV.toR (wpv_of (wp_assign _ _ rfl e48) (fun _ _ => rfl)) StR.of
            · obtain rfl := Option.some.inj ho
              exact absurd rfl hiZ
            · obtain rfl := Option.some.inj ho
              exact absurd rfl hiZ2
            · simp at ho
          intro oZ oZ2 hoZ hoZ2 vals xE hR hSx hc0
          obtain rfl := Option.some.inj hoZ
          obtain rfl := Option.some.inj hoZ2
          clear hoZ hoZ2
          have e1 := hc0 1 (by simp) (by decide) (by decide)
          have e6 := hc0 6 (by simp) (by decide) (by decide)
          obtain ⟨f3, e5, hf3⟩ : ∃ h, vals 5 = .agg (u8s 64 h) ∧ By h := hc0 5 (by simp) (by decide) (by decide)
          have e0 := hc0 0 (by simp) (by decide) (by decide)
          have e2 := hc0 2 (by simp) (by decide) (by decide)
          have e3 := hc0 3 (by simp) (by decide) (by decide)
          have e4 := hc0 4 (by simp) (by decide) (by decide)
          simp only [List.getD_cons_zero, List.getD_cons_succ] at e0 e1 e2 e3 e4 e6
          have hz3 := hSx.2.2.2.1
          have hz4 := hSx.2.2.2.2.1
          have hb2 := below_then hb hR.1 (fun k e => by injection e with e; omega)
          clear hc0 hSx h7 h9 hZ3 hZ4 hS hR hb
          refine ⟨rfl, rfl, ?_⟩
          simp only [List.length_cons, List.length_nil, Nat.zero_add, Nat.reduceAdd, List.replicate, seen2, Bool.false_eq_true, if_false, putAll, if_true, Act.put, List.setIfInBounds_toArray, List.set_cons_zero, List.set_cons_succ, e0, e1, e2, e3, e4, e5, e6]
          clear e0 e1 e2 e3 e4 e5 e6
          refine wp_store_arr 25 _ _ rfl g3 rfl (u8s 64 h) rfl (u8s 64 fun _ => 0) _ hz3 sPoly (by simp only [u8s_size]) (u8s_oneCell _ _) ?_
          refine wp_store_arr 25 _ _ rfl g4 rfl (u8s 64 f3) rfl (u8s 64 fun _ => 0) _ (hz4.setRow_other (g := g3) (by omega)) sPoly (by simp only [u8s_size]) (u8s_oneCell _ _) ?_
          go_wp2_with fail
          have hr3 := (hz3.setRow_same (cs := u8s 64 h)).setRow_other (g := g4) (cs := u8s 64 f3) (by omega)
          have hr4 := (hz4.setRow_other (g := g3) (cs := u8s 64 h) (by omega)).setRow_same (cs := u8s 64 f3)
          exact bodyPost_ret (res_tcc (x := .int .i64 p) rfl rfl hr3 uPoly sPoly rfl hr4 uPoly sPoly rfl) rfl ⟨_, _, _, rfl, hp0, hp1, hhH.out, hf3, below_setRow (below_setRow hb2 (by omega) _) (by omega) _⟩
    · go_upto_region 11 with (fail)
      go_upto_region 11 with (fail)
      refine gen_last2R (w := _) (StR B g) (StR.drew _) StR.refl StR.trans (by kernel_rfl) (by kernel_rfl) (by kernel_rfl) 7 8 (by kernel_rfl)
        (fun i => ([fun v w => v = .int .i64 p, fun v w => v = .agg (u8s 64 f), fun v w => v = .pointer (some ⟨g, 0, none⟩), fun v w => v = .int .i64 2, fun v w => v = .agg (u8s 64 f2), fun v w => ∃ h, v = .agg (u8s 64 h) ∧ By h, fun v w => v = .int .i64 p, fun _ _ => True, fun _ _ => True] : List (Value → World → Prop)).getD i (fun _ _ => True))
        (fun w' => Src B w' g ∧ Blk w' g7 (u8s 64 f) 25 ∧ Blk w' g9 (u8s 64 f2) 25 ∧ Blk w' g3 (u8s 64 (fun _ => 0)) 25 ∧ Blk w' g4 (u8s 64 (fun _ => 0)) 25 ∧ True) ⟨hS.out.step (grown_drewR _ none) (fun q e => by cases e), h7.drew, h9.drew, hZ3.drew, hZ4.drew, trivial⟩ (fun w1 w2 h hb => ⟨hb.2 h.1, h.2.1.grownR hb.1 hn7, h.2.2.1.grownR hb.1 hn9, h.2.2.2.1.grownR hb.1 hn3, h.2.2.2.2.1.grownR hb.1 hn4, trivial⟩) ?_ ?_ ?_
      · intro i v w1 w2 h hb
        rcases i with _|_|_|_|_|_|_|_|_|i
        · exact h
        · exact h
        · exact h
        · exact h
        · exact h
        · exact h
        · exact h
        · exact h
        · exact h
        · exact h
      · intro i o ho hiZ hiZ2 a w2 hR hSx hrd hpar
        rcases i with _|_|_|_|_|_|_|_|_|i
        · obtain rfl := Option.some.inj ho
          refine .inl ⟨rfl, ?_⟩
          have e6 : a.eval (.tmp 6) = .int .i64 p := hpar 6 _ (by kernel_rfl) (by kernel_rfl)
          refine WpV.toR (wpv_of (wp_move _ _ rfl e6) (fun _ _ => rfl)) StR.of
        · obtain rfl := Option.some.inj ho
          refine .inl ⟨rfl, ?_⟩
          refine WpV.toR (wpv_of (wp_loadB 25 _ rfl _ (hpar 7 (.pointer (some ⟨g7, 0, none⟩)) (by kernel_rfl) (by kernel_rfl)) _ _ hSx.2.1 _ _ uPoly sPoly) (fun _ _ => rfl)) StR.of
        · obtain rfl := Option.some.inj ho
          refine .inl ⟨rfl, ?_⟩
          have e5 : a.eval (.tmp 5) = .pointer (some ⟨g, 0, none⟩) := hpar 5 _ (by kernel_rfl) (by kernel_rfl)
          refine WpV.toR (wpv_of (wp_move _ _ rfl e5) (fun _ _ => rfl)) StR.of
        · obtain rfl := Option.some.inj ho
          refine .inl ⟨rfl, ?_⟩
          have e8 : a.eval (.tmp 8) = .int .i64 2 := hpar 8 _ (by kernel_rfl) (by kernel_rfl)
          refine WpV.toR (wpv_of (wp_move _ _ rfl e8) (fun _ _ => rfl)) StR.of
        · obtain rfl := Option.some.inj ho
          refine .inl ⟨rfl, ?_⟩
          refine WpV.toR (wpv_of (wp_loadB 25 _ rfl _ (hpar 9 (.pointer (some ⟨g9, 0, none⟩)) (by kernel_rfl) (by kernel_rfl)) _ _ hSx.2.2.1 _ _ uPoly sPoly) (fun _ _ => rfl)) StR.of
        · obtain rfl := Option.some.inj ho
          refine .inl ⟨rfl, ?_⟩
          have e50 : a.eval (.tmp 50) = .pointer (some ⟨g, 0, none⟩) := hrd 2 _ 50 rfl rfl (by kernel_rfl) (by kernel_rfl)
          have e51 : a.eval (.tmp 51) = .int .i64 2 := hrd 3 _ 51 rfl rfl (by kernel_rfl) (by kernel_rfl)
          have e52 : a.eval (.tmp 52) = .agg (u8s 64 f2) := hrd 4 _ 52 rfl rfl (by kernel_rfl) (by kernel_rfl)
          exact wpr_call 55 [.tmp 50, .tmp 51, .tmp 52] _ rfl [.pointer (some ⟨g, 0, none⟩), .int .i64 2, .agg (u8s 64 f2)] (by simp only [List.map_cons, List.map_nil, e50, e51, e52]) Try.call55 ((l01Bad_any B g 2 f2 w2 hSx.1 hf2.out.1).mono fun _ _ ⟨f, h1, h2, h3, h4⟩ => ⟨_, h1, ⟨f, rfl, h2⟩, h4, fun _ => h3⟩)
        · obtain rfl := Option.some.inj ho
          refine .inl ⟨rfl, ?_⟩
          have e48 : a.eval (.tmp 48) = .int .i64 p := hrd 0 _ 48 rfl rfl (by kernel_rfl) (by kernel_rfl)
          refine WpV.toR (wpv_of (wp_assign _ _ rfl e48) (fun _ _ => rfl)) StR.of
        · obtain rfl := Option.some.inj ho
          exact absurd rfl hiZ
        · obtain rfl := Option.some.inj ho
          exact absurd rfl hiZ2
        · simp at ho
      intro oZ oZ2 hoZ hoZ2 vals xE hR hSx hc0
      obtain rfl := Option.some.inj hoZ
      obtain rfl := Option.some.inj hoZ2
      clear hoZ hoZ2
      have e1 := hc0 1 (by simp) (by decide) (by decide)
      have e6 := hc0 6 (by simp) (by decide) (by decide)
      obtain ⟨f3, e5, hf3⟩ : ∃ h, vals 5 = .agg (u8s 64 h) ∧ By h := hc0 5 (by simp) (by decide) (by decide)
      have e0 := hc0 0 (by simp) (by decide) (by decide)
      have e2 := hc0 2 (by simp) (by decide) (by decide)
      have e3 := hc0 3 (by simp) (by decide) (by decide)
      have e4 := hc0 4 (by simp) (by decide) (by decide)
      simp only [List.getD_cons_zero, List.getD_cons_succ] at e0 e1 e2 e3 e4 e6
      have hz3 := hSx.2.2.2.1
      have hz4 := hSx.2.2.2.2.1
      have hb2 := below_then hb hR.1 (fun k e => by injection e with e; omega)
      clear hc0 hSx h7 h9 hZ3 hZ4 hS hR hb
      refine ⟨rfl, rfl, ?_⟩
      simp only [List.length_cons, List.length_nil, Nat.zero_add, Nat.reduceAdd, List.replicate, seen2, Bool.false_eq_true, if_false, putAll, if_true, Act.put, List.setIfInBounds_toArray, List.set_cons_zero, List.set_cons_succ, e0, e1, e2, e3, e4, e5, e6]
      clear e0 e1 e2 e3 e4 e5 e6
      refine wp_store_arr 25 _ _ rfl g3 rfl (u8s 64 f) rfl (u8s 64 fun _ => 0) _ hz3 sPoly (by simp only [u8s_size]) (u8s_oneCell _ _) ?_
      refine wp_store_arr 25 _ _ rfl g4 rfl (u8s 64 f3) rfl (u8s 64 fun _ => 0) _ (hz4.setRow_other (g := g3) (by omega)) sPoly (by simp only [u8s_size]) (u8s_oneCell _ _) ?_
      go_wp2_with fail
      have hr3 := (hz3.setRow_same (cs := u8s 64 f)).setRow_other (g := g4) (cs := u8s 64 f3) (by omega)
      have hr4 := (hz4.setRow_other (g := g3) (cs := u8s 64 f) (by omega)).setRow_same (cs := u8s 64 f3)
      exact bodyPost_ret (res_tcc (x := .int .i64 p) rfl rfl hr3 uPoly sPoly rfl hr4 uPoly sPoly rfl) rfl ⟨_, _, _, rfl, hp0, hp1, hf.out, hf3, below_setRow (below_setRow hb2 (by omega) _) (by omega) _⟩
  · have hprO : Pr p := of_decide_eq_true hbPH.out
    clear hbPH
    go_upto_region 6 with (fail)
    have hn := below_new w4 (.cells (ints [2, 4, 8, 63]) 2)
    have hP := Lib.hid (l01Pick_any B g w4.heap.size [2, 4, 8, 63] _ (hS.out.below hn) (Blk.new w4 _ _) (by decide) (by have := hS.out.lt; omega) (by decide))
    replace hZ3 := hZ3.keep hn
    replace hZ4 := hZ4.keep hn
    replace h7 := h7.keep hn
    replace hb := below_step hb hn
    clear hn hS
    go_wp2_with fail
    refine hP.out.mono ?_
    rintro e w5 ⟨m, rfl, hm, hS5, hg5⟩
    have hm2 : -1 ≤ m ∧ m ≤ 63 := by
      simp only [List.mem_cons, List.not_mem_nil, or_false] at hm
      omega
    have hD := Lib.hid (l01Draw_any B g p m w5 hS5 hm2.1 hm2.2)
    have hS := Lib.hid hS5
    replace hZ3 := hZ3.grownR hg5 hn3
    replace hZ4 := hZ4.grownR hg5 hn4
    replace h7 := h7.grownR hg5 hn7
    replace hb := below_then hb hg5 (fun k e => by injection e with e; omega)
    replace hS := Lib.hid hS5
    clear hg5 hS5 hP hm
    go_wp2_with fail
    refine hD.out.mono ?_
    rintro e w6 ⟨f2, rfl, hf2', hS6, hg6⟩
    replace hZ3 := hZ3.grownR hg6 hn3
    replace hZ4 := hZ4.grownR hg6 hn4
    replace h7 := h7.grownR hg6 hn7
    replace hb := below_then hb hg6 (fun k e => by injection e with e; omega)
    replace hS := Lib.hid hS6
    have hn := below_new w6 (.cells (u8s 64 f2) 25)
    have h9 := Blk.new w6 (u8s 64 f2) 25
    have hlt6 := hS6.lt
    replace hZ3 := hZ3.keep hn
    replace hZ4 := hZ4.keep hn
    have h7lt := h7.lt
    have h3lt := hZ3.lt
    replace h7 := h7.keep hn
    have hsz6 := hb.size
    replace hb := below_step hb hn
    replace hS := Lib.hid (hS6.below hn)
    have hN := Lib.hid (l01Next_any B g 6 _ (hS6.below hn))
    have hf2 := Lib.hid hf2'
    clear hg6 hS6 hD hn hf2'
    go_upto_region 7 with ((with_reducible refine wpl_guard ?_); first | (refine wpl_alloc_arr rfl 25 rfl _ zPoly ?_) | (refine wpl_store_new rfl 25 _ _ rfl _ rfl rfl _ rfl sPoly (by simp only [u8s_size]) (u8s_oneCell _ _) ?_))
    obtain ⟨g9, hg9⟩ : ∃ q, w6.heap.size = q := ⟨_, rfl⟩
    rw [hg9] at h9 ⊢
    have hn9 : some g9 ≠ some g := fun e => by injection e with e; omega
    have h97 : g9 ≠ g7 := by omega
    clear h7lt
    go_wp2_with fail
    refine hN.out.mono ?_
    rintro e w7 ⟨x, rfl, hx0, hx1, hS7, hg7⟩
    replace hZ3 := hZ3.grownR hg7 hn3
    replace hZ4 := hZ4.grownR hg7 hn4
    replace h7 := h7.grownR hg7 hn7
    replace h9 := h9.grownR hg7 hn9
    replace hb := below_then hb hg7 (fun k e => by injection e with e; omega)
    replace hS := Lib.hid hS7
    clear hg7 hS7 hN
    by_cases hx : x = 0
    · go_upto_region 8 with (fail)
      obtain ⟨hi, hhi'⟩ : ∃ q, w7.heap.size = q := ⟨_, rfl⟩
      have hhi : hi ≤ w7.heap.size := by omega
      have hglt : g < hi := by have := hS.out.lt; omega
      have h9hi : g9 < hi := by have := h9.lt; omega
      have h7hi : g7 < hi := by have := h7.lt; omega
      have h3hi : g3 < hi := by have := hZ3.lt; omega
      have h4hi : g4 < hi := by have := hZ4.lt; omega
      go_upto_region 8 with (fail)
      refine gen_guardR (w := _) (StA B g hi) (StA.drew _ hglt) StA.refl StA.trans (by kernel_rfl) (by kernel_rfl) (by kernel_rfl)
        (fun i => ([fun v w => v = .int .i64 p, fun v w => v = .agg (u8s 64 f2), fun v w => v = .pointer (some ⟨g, 0, none⟩), fun v w => v = .int .i64 p, fun v w => ∃ h, v = .agg (u8s 64 h) ∧ Dw p h, fun v w => ∃ h d, v = .tuple #[.agg (u8s 64 h), .bool d] ∧ By h, fun v w => ∃ h d, v = .tuple #[.agg (u8s 64 h), .bool d] ∧ By h, fun v w => ∃ h, v = .agg (u8s 64 h) ∧ By h, fun v w => ∃ d, v = .bool d, fun v w => ∃ q, v = .pointer (some ⟨q, 0, none⟩) ∧ hi ≤ q ∧ hi ≤ w.heap.size ∧ ∃ f, By f ∧ Blk w q (u8s 64 f) 25, fun v w => True, fun v w => ∃ d, v = .bool d] : List (Value → World → Prop)).getD i (fun _ _ => True))
        (fun w' => hi ≤ w'.heap.size ∧ Src B w' g ∧ Blk w' g9 (u8s 64 f2) 25 ∧ Blk w' g7 (u8s 64 f) 25 ∧ Blk w' g3 (u8s 64 (fun _ => 0)) 25 ∧ Blk w' g4 (u8s 64 (fun _ => 0)) 25 ∧ True) ⟨hhi, hS.out.step (grown_drewR _ none) (fun q e => by cases e), h9.drew, h7.drew, hZ3.drew, hZ4.drew, trivial⟩ (fun w1 w2 h hb => ⟨(hb h.1).size, (hb h.1).src h.2.1, (hb h.1).keep h.2.2.1 hn9 h9hi, (hb h.1).keep h.2.2.2.1 hn7 h7hi, (hb h.1).keep h.2.2.2.2.1 hn3 h3hi, (hb h.1).keep h.2.2.2.2.2.1 hn4 h4hi, trivial⟩) ?_ ?_ ?_
      · intro i v w1 w2 h hb
        rcases i with _|_|_|_|_|_|_|_|_|_|_|_|i
        · exact h
        · exact h
        · exact h
        · exact h
        · exact h
        · exact h
        · exact h
        · exact h
        · exact h
        · obtain ⟨q, h1, h2, h4, h3⟩ := h; exact ⟨q, h1, h2, (hb h4).size, (hb h4).arr q h2 h3⟩
        · exact h
        · exact h
        · exact h
      · intro i o ho a w2 hR hSx hrd hpar
        rcases i with _|_|_|_|_|_|_|_|_|_|_|_|i
        · obtain rfl := Option.some.inj ho
          refine .inl ⟨rfl, ?_⟩
          have e8 : a.eval (.tmp 8) = .int .i64 p := hpar 8 _ (by kernel_rfl) (by kernel_rfl)
          refine WpV.toR (wpv_of (wp_move _ _ rfl e8) (fun _ _ => rfl)) (StA.of hSx.1 hglt)
        · obtain rfl := Option.some.inj ho
          refine .inl ⟨rfl, ?_⟩
          refine WpV.toR (wpv_of (wp_loadB 25 _ rfl _ (hpar 9 (.pointer (some ⟨g9, 0, none⟩)) (by kernel_rfl) (by kernel_rfl)) _ _ hSx.2.2.1 _ _ uPoly sPoly) (fun _ _ => rfl)) (StA.of hSx.1 hglt)
        · obtain rfl := Option.some.inj ho
          refine .inl ⟨rfl, ?_⟩
          have e5 : a.eval (.tmp 5) = .pointer (some ⟨g, 0, none⟩) := hpar 5 _ (by kernel_rfl) (by kernel_rfl)
          refine WpV.toR (wpv_of (wp_move _ _ rfl e5) (fun _ _ => rfl)) (StA.of hSx.1 hglt)
        · obtain rfl := Option.some.inj ho
          refine .inl ⟨rfl, ?_⟩
          have e8 : a.eval (.tmp 8) = .int .i64 p := hpar 8 _ (by kernel_rfl) (by kernel_rfl)
          refine WpV.toR (wpv_of (wp_move _ _ rfl e8) (fun _ _ => rfl)) (StA.of hSx.1 hglt)
        · obtain rfl := Option.some.inj ho
          refine .inl ⟨rfl, ?_⟩
          have e35 : a.eval (.tmp 35) = .pointer (some ⟨g, 0, none⟩) := hrd 2 _ 35 rfl rfl (by kernel_rfl) (by kernel_rfl)
          have e36 : a.eval (.tmp 36) = .int .i64 p := hrd 3 _ 36 rfl rfl (by kernel_rfl) (by kernel_rfl)
          exact wpr_call 50 [.tmp 35, .tmp 36, .const (.int .i64 4)] _ rfl [.pointer (some ⟨g, 0, none⟩), .int .i64 p, .int .i64 4] (by simp only [List.map_cons, List.map_nil, e35, e36, eval_const]) Try.call50 ((l01Draw_any B g p 4 w2 hSx.2.1 (by decide) (by decide)).mono fun _ _ ⟨f, h1, h2, h3, h4⟩ => ⟨_, h1, ⟨f, rfl, h2⟩, StA.grown h4 h3 hglt⟩)
        · obtain rfl := Option.some.inj ho
          refine .inl ⟨rfl, ?_⟩
          have e33 : a.eval (.tmp 33) = .int .i64 p := hrd 0 _ 33 rfl rfl (by kernel_rfl) (by kernel_rfl)
          have e34 : a.eval (.tmp 34) = .agg (u8s 64 f2) := hrd 1 _ 34 rfl rfl (by kernel_rfl) (by kernel_rfl)
          obtain ⟨h, e37, hd⟩ : ∃ h, a.eval (.tmp 37) = .agg (u8s 64 h) ∧ Dw p h := hrd 4 _ 37 rfl rfl (by kernel_rfl) (by kernel_rfl)
          have ht := timesD w2 hprO hf2.out hd
          refine WpV.toR (wpv_call 53 [.tmp 33, .tmp 34, .tmp 37] _ rfl [.int .i64 p, .agg (u8s 64 f2), .agg (u8s 64 h)] (by simp only [List.map_cons, List.map_nil, e33, e34, e37]) Try.call53 (ht.mono fun _ _ ⟨h, d, h1, h2, h3⟩ => ⟨_, h1, ⟨h, d, rfl, h2⟩, h3⟩)) (StA.of hSx.1 hglt)
        · obtain rfl := Option.some.inj ho
          refine .inl ⟨rfl, ?_⟩
          obtain ⟨h, d, e38, hd⟩ : ∃ h d, a.eval (.tmp 38) = .tuple #[.agg (u8s 64 h), .bool d] ∧ By h := hrd 5 _ 38 rfl rfl (by kernel_rfl) (by kernel_rfl)
          refine WpV.toR (wpv_of (wp_move _ _ rfl e38) (fun _ _ => ⟨h, d, rfl, hd⟩)) (StA.of hSx.1 hglt)
        · obtain rfl := Option.some.inj ho
          refine .inl ⟨rfl, ?_⟩
          obtain ⟨h, d, e32, hd⟩ : ∃ h d, a.eval (.tmp 32) = .tuple #[.agg (u8s 64 h), .bool d] ∧ By h := hrd 6 _ 32 rfl rfl (by kernel_rfl) (by kernel_rfl)
          refine WpV.toR (wpv_of (wp_extract _ 0 #[.agg (u8s 64 h), .bool d] _ rfl e32 rfl) (fun _ _ => ⟨h, rfl, hd⟩)) (StA.of hSx.1 hglt)
        · obtain rfl := Option.some.inj ho
          refine .inl ⟨rfl, ?_⟩
          obtain ⟨h, d, e32, hd⟩ : ∃ h d, a.eval (.tmp 32) = .tuple #[.agg (u8s 64 h), .bool d] ∧ By h := hrd 6 _ 32 rfl rfl (by kernel_rfl) (by kernel_rfl)
          refine WpV.toR (wpv_of (wp_extract _ 1 #[.agg (u8s 64 h), .bool d] _ rfl e32 rfl) (fun _ _ => ⟨d, rfl⟩)) (StA.of hSx.1 hglt)
        · obtain rfl := Option.some.inj ho
          refine .inl ⟨rfl, ?_⟩
          refine WpR.imp (WpV.toR (wpv_alloc 25 rfl _ zPoly hi hSx.1) (StA.of hSx.1 hglt)) ?_
          rintro v w' ⟨q, h1, h2, h3⟩ hb
          exact ⟨q, h1, h2, (hb hSx.1).size, _, fun _ => ⟨Int.le_refl 0, (by decide : (0 : Int) ≤ 255)⟩, h3⟩
        · obtain rfl := Option.some.inj ho
          refine .inl ⟨rfl, ?_⟩
          obtain ⟨q, e10, h2, h4, fq, hfq, hq⟩ : ∃ q, a.eval (.tmp 10) = .pointer (some ⟨q, 0, none⟩) ∧ hi ≤ q ∧ hi ≤ w2.heap.size ∧ ∃ f, By f ∧ Blk w2 q (u8s 64 f) 25 := hrd 9 _ 10 rfl rfl (by kernel_rfl) (by kernel_rfl)
          obtain ⟨hh, e39, hhb⟩ : ∃ h, a.eval (.tmp 39) = .agg (u8s 64 h) ∧ By h := hrd 7 _ 39 rfl rfl (by kernel_rfl) (by kernel_rfl)
          refine wp_store_arr 25 _ _ rfl q e10 (u8s 64 hh) e39 (u8s 64 fq) _ hq sPoly (by simp only [u8s_size]) (u8s_oneCell _ _) ?_
          exact ⟨_, rfl, trivial, StA.store h2 hglt hhb⟩
        · obtain rfl := Option.some.inj ho
          refine .inl ⟨rfl, ?_⟩
          obtain ⟨d, e40⟩ : ∃ d, a.eval (.tmp 40) = .bool d := hrd 8 _ 40 rfl rfl (by kernel_rfl) (by kernel_rfl)
          refine WpV.toR (wpv_of (wp_assign _ _ rfl e40) (fun _ _ => ⟨d, rfl⟩)) (StA.of hSx.1 hglt)
        · simp at ho
      intro vals xD hR hSx hc0
      obtain ⟨d, e11⟩ : ∃ d, vals 11 = .bool d := hc0 11 (by simp)
      obtain ⟨g10, e9, hlo10, _, h, hh, h10⟩ : ∃ q, vals 9 = .pointer (some ⟨q, 0, none⟩) ∧ hi ≤ q ∧ hi ≤ xD.heap.size ∧ ∃ f, By f ∧ Blk xD q (u8s 64 f) 25 := hc0 9 (by simp)
      simp only [List.length_cons, List.length_nil, Nat.zero_add, Nat.reduceAdd, List.replicate, seen2, Bool.false_eq_true, if_false, putAll, if_true, Act.put, List.setIfInBounds_toArray, List.set_cons_zero, List.set_cons_succ, e11, e9]
      replace h9 := hSx.2.2.1
      replace h7 := hSx.2.2.2.1
      replace hZ3 := hSx.2.2.2.2.1
      replace hZ4 := hSx.2.2.2.2.2.1
      replace hb := (hR hhi).below hb
      have hn10 : some g10 ≠ some g := fun e => by injection e with e; omega
      have hlt10 := h10.lt
      replace hS := Lib.hid hSx.2.1
      generalize xD = y8 at *
      obtain ⟨bI, hbI⟩ : ∃ b, decide ((∀ i : Nat, i < 64 → h i < p) ∧ Pr p) = b := ⟨_, rfl⟩
      have hIs := Lib.hid (fun w => l01Is_any h p w (fun i _ => hh i) bI hbI)
      have hhH := Lib.hid hh
      clear hc0 hSx hR e11 e9 hh hbI
      cases d
      · go_upto_region 11 with (fail)
        go_upto_region 11 with (fail)
        refine gen_last2R (w := _) (StR B g) (StR.drew _) StR.refl StR.trans (by kernel_rfl) (by kernel_rfl) (by kernel_rfl) 7 8 (by kernel_rfl)
          (fun i => ([fun v w => v = .int .i64 p, fun v w => v = .agg (u8s 64 f), fun v w => v = .pointer (some ⟨g, 0, none⟩), fun v w => v = .int .i64 p, fun v w => v = .agg (u8s 64 f2), fun v w => ∃ h, v = .agg (u8s 64 h) ∧ By h, fun v w => v = .int .i64 p, fun _ _ => True, fun _ _ => True] : List (Value → World → Prop)).getD i (fun _ _ => True))
          (fun w' => Src B w' g ∧ Blk w' g7 (u8s 64 f) 25 ∧ Blk w' g9 (u8s 64 f2) 25 ∧ Blk w' g3 (u8s 64 (fun _ => 0)) 25 ∧ Blk w' g4 (u8s 64 (fun _ => 0)) 25 ∧ True) ⟨hS.out.step (grown_drewR _ none) (fun q e => by cases e), h7.drew, h9.drew, hZ3.drew, hZ4.drew, trivial⟩ (fun w1 w2 h hb => ⟨hb.2 h.1, h.2.1.grownR hb.1 hn7, h.2.2.1.grownR hb.1 hn9, h.2.2.2.1.grownR hb.1 hn3, h.2.2.2.2.1.grownR hb.1 hn4, trivial⟩) ?_ ?_ ?_
        · intro i v w1 w2 h hb
          rcases i with _|_|_|_|_|_|_|_|_|i
          · exact h
          · exact h
          · exact h
          · exact h
          · exact h
          · exact h
          · exact h
          · exact h
          · exact h
          · exact h
        · intro i o ho hiZ hiZ2 a w2 hR hSx hrd hpar
          rcases i with _|_|_|_|_|_|_|_|_|i
          · obtain rfl := Option.some.inj ho
            refine .inl ⟨rfl, ?_⟩
            have e6 : a.eval (.tmp 6) = .int .i64 p := hpar 6 _ (by kernel_rfl) (by kernel_rfl)
            refine WpV.toR (wpv_of (wp_move _ _ rfl e6) (fun _ _ => rfl)) StR.of
          · obtain rfl := Option.some.inj ho
            refine .inl ⟨rfl, ?_⟩
            refine WpV.toR (wpv_of (wp_loadB 25 _ rfl _ (hpar 7 (.pointer (some ⟨g7, 0, none⟩)) (by kernel_rfl) (by kernel_rfl)) _ _ hSx.2.1 _ _ uPoly sPoly) (fun _ _ => rfl)) StR.of
          · obtain rfl := Option.some.inj ho
            refine .inl ⟨rfl, ?_⟩
            have e5 : a.eval (.tmp 5) = .pointer (some ⟨g, 0, none⟩) := hpar 5 _ (by kernel_rfl) (by kernel_rfl)
            refine WpV.toR (wpv_of (wp_move _ _ rfl e5) (fun _ _ => rfl)) StR.of
          · obtain rfl := Option.some.inj ho
            refine .inl ⟨rfl, ?_⟩
            have e8 : a.eval (.tmp 8) = .int .i64 p := hpar 8 _ (by kernel_rfl) (by kernel_rfl)
            refine WpV.toR (wpv_of (wp_move _ _ rfl e8) (fun _ _ => rfl)) StR.of
          · obtain rfl := Option.some.inj ho
            refine .inl ⟨rfl, ?_⟩
            refine WpV.toR (wpv_of (wp_loadB 25 _ rfl _ (hpar 9 (.pointer (some ⟨g9, 0, none⟩)) (by kernel_rfl) (by kernel_rfl)) _ _ hSx.2.2.1 _ _ uPoly sPoly) (fun _ _ => rfl)) StR.of
          · obtain rfl := Option.some.inj ho
            refine .inl ⟨rfl, ?_⟩
            have e50 : a.eval (.tmp 50) = .pointer (some ⟨g, 0, none⟩) := hrd 2 _ 50 rfl rfl (by kernel_rfl) (by kernel_rfl)
            have e51 : a.eval (.tmp 51) = .int .i64 p := hrd 3 _ 51 rfl rfl (by kernel_rfl) (by kernel_rfl)
            have e52 : a.eval (.tmp 52) = .agg (u8s 64 f2) := hrd 4 _ 52 rfl rfl (by kernel_rfl) (by kernel_rfl)
            exact wpr_call 55 [.tmp 50, .tmp 51, .tmp 52] _ rfl [.pointer (some ⟨g, 0, none⟩), .int .i64 p, .agg (u8s 64 f2)] (by simp only [List.map_cons, List.map_nil, e50, e51, e52]) Try.call55 ((l01Bad_any B g p f2 w2 hSx.1 hf2.out.1).mono fun _ _ ⟨f, h1, h2, h3, h4⟩ => ⟨_, h1, ⟨f, rfl, h2⟩, h4, fun _ => h3⟩)
          · obtain rfl := Option.some.inj ho
            refine .inl ⟨rfl, ?_⟩
            have e48 : a.eval (.tmp 48) = .int .i64 p := hrd 0 _ 48 rfl rfl (by kernel_rfl) (by kernel_rfl)
            refine WpV.toR (wpv_of (wp_assign _ _ rfl e48) (fun _ _ => rfl)) StR.of
          · obtain rfl := Option.some.inj ho
            exact absurd rfl hiZ
          · obtain rfl := Option.some.inj ho
            exact absurd rfl hiZ2
          · simp at ho
        intro oZ oZ2 hoZ hoZ2 vals xE hR hSx hc0
        obtain rfl := Option.some.inj hoZ
        obtain rfl := Option.some.inj hoZ2
        clear hoZ hoZ2
        have e1 := hc0 1 (by simp) (by decide) (by decide)
        have e6 := hc0 6 (by simp) (by decide) (by decide)
        obtain ⟨f3, e5, hf3⟩ : ∃ h, vals 5 = .agg (u8s 64 h) ∧ By h := hc0 5 (by simp) (by decide) (by decide)
        have e0 := hc0 0 (by simp) (by decide) (by decide)
        have e2 := hc0 2 (by simp) (by decide) (by decide)
        have e3 := hc0 3 (by simp) (by decide) (by decide)
        have e4 := hc0 4 (by simp) (by decide) (by decide)
        simp only [List.getD_cons_zero, List.getD_cons_succ] at e0 e1 e2 e3 e4 e6
        have hz3 := hSx.2.2.2.1
        have hz4 := hSx.2.2.2.2.1
        have hb2 := below_then hb hR.1 (fun k e => by injection e with e; omega)
        clear hc0 hSx h7 h9 hZ3 hZ4 hS hR hb
        refine ⟨rfl, rfl, ?_⟩
        simp only [List.length_cons, List.length_nil, Nat.zero_add, Nat.reduceAdd, List.replicate, seen2, Bool.false_eq_true, if_false, putAll, if_true, Act.put, List.setIfInBounds_toArray, List.set_cons_zero, List.set_cons_succ, e0, e1, e2, e3, e4, e5, e6]
        clear e0 e1 e2 e3 e4 e5 e6
        refine wp_store_arr 25 _ _ rfl g3 rfl (u8s 64 f) rfl (u8s 64 fun _ => 0) _ hz3 sPoly (by simp only [u8s_size]) (u8s_oneCell _ _) ?_
        refine wp_store_arr 25 _ _ rfl g4 rfl (u8s 64 f3) rfl (u8s 64 fun _ => 0) _ (hz4.setRow_other (g := g3) (by omega)) sPoly (by simp only [u8s_size]) (u8s_oneCell _ _) ?_
        go_wp2_with fail
        have hr3 := (hz3.setRow_same (cs := u8s 64 f)).setRow_other (g := g4) (cs := u8s 64 f3) (by omega)
        have hr4 := (hz4.setRow_other (g := g3) (cs := u8s 64 f) (by omega)).setRow_same (cs := u8s 64 f3)
        exact bodyPost_ret (res_tcc (x := .int .i64 p) rfl rfl hr3 uPoly sPoly rfl hr4 uPoly sPoly rfl) rfl ⟨_, _, _, rfl, hp0, hp1, hf.out, hf3, below_setRow (below_setRow hb2 (by omega) _) (by omega) _⟩
      · go_wp2_with ((with_reducible refine wpl_guard ?_); first | (refine wpl_load_arr rfl 25 _ rfl _ rfl _ _ h10 _ _ uPoly sPoly ?_))
        refine (hIs.out _).mono ?_
        rintro e w8 ⟨rfl, hn⟩
        replace h10 := h10.keep hn
        replace h9 := h9.keep hn
        replace h7 := h7.keep hn
        replace hZ3 := hZ3.keep hn
        replace hZ4 := hZ4.keep hn
        replace hS := Lib.hid (hS.out.below hn)
        replace hb := below_step hb hn
        clear hn hIs
        cases bI
        · go_upto_region 11 with (fail)
          go_upto_region 11 with (fail)
          refine gen_last2R (w := _) (StR B g) (StR.drew _) StR.refl StR.trans (by kernel_rfl) (by kernel_rfl) (by kernel_rfl) 7 8 (by kernel_rfl)
            (fun i => ([fun v w => v = .int .i64 p, fun v w => v = .agg (u8s 64 f), fun v w => v = .pointer (some ⟨g, 0, none⟩), fun v w => v = .int .i64 p, fun v w => v = .agg (u8s 64 f2), fun v w => ∃ h, v = .agg (u8s 64 h) ∧ By h, fun v w => v = .int .i64 p, fun _ _ => True, fun _ _ => True] : List (Value → World → Prop)).getD i (fun _ _ => True))
            (fun w' => Src B w' g ∧ Blk w' g7 (u8s 64 f) 25 ∧ Blk w' g9 (u8s 64 f2) 25 ∧ Blk w' g3 (u8s 64 (fun _ => 0)) 25 ∧ Blk w' g4 (u8s 64 (fun _ => 0)) 25 ∧ True) ⟨hS.out.step (grown_drewR _ none) (fun q e => by cases e), h7.drew, h9.drew, hZ3.drew, hZ4.drew, trivial⟩ (fun w1 w2 h hb => ⟨hb.2 h.1, h.2.1.grownR hb.1 hn7, h.2.2.1.grownR hb.1 hn9, h.2.2.2.1.grownR hb.1 hn3, h.2.2.2.2.1.grownR hb.1 hn4, trivial⟩) ?_ ?_ ?_
          · intro i v w1 w2 h hb
            rcases i with _|_|_|_|_|_|_|_|_|i
            · exact h
            · exact h
            · exact h
            · exact h
            · exact h
            · exact h
            · exact h
            · exact h
            · exact h
            · exact h
          · intro i o ho hiZ hiZ2 a w2 hR hSx hrd hpar
            rcases i with _|_|_|_|_|_|_|_|_|i
            · obtain rfl := Option.some.inj ho
              refine .inl ⟨rfl, ?_⟩
              have e6 : a.eval (.tmp 6) = .int .i64 p := hpar 6 _ (by kernel_rfl) (by kernel_rfl)
              refine WpV.toR (wpv_of (wp_move _ _ rfl e6) (fun _ _ => rfl)) StR.of
            · obtain rfl := Option.some.inj ho
              refine .inl ⟨rfl, ?_⟩
              refine WpV.toR (wpv_of (wp_loadB 25 _ rfl _ (hpar 7 (.pointer (some ⟨g7, 0, none⟩)) (by kernel_rfl) (by kernel_rfl)) _ _ hSx.2.1 _ _ uPoly sPoly) (fun _ _ => rfl)) StR.of
            · obtain rfl := Option.some.inj ho
              refine .inl ⟨rfl, ?_⟩
              have e5 : a.eval (.tmp 5) = .pointer (some ⟨g, 0, none⟩) := hpar 5 _ (by kernel_rfl) (by kernel_rfl)
              refine WpV.toR (wpv_of (wp_move _ _ rfl e5) (fun _ _ => rfl)) StR.of
            · obtain rfl := Option.some.inj ho
              refine .inl ⟨rfl, ?_⟩
              have e8 : a.eval (.tmp 8) = .int .i64 p := hpar 8 _ (by kernel_rfl) (by kernel_rfl)
              refine WpV.toR (wpv_of (wp_move _ _ rfl e8) (fun _ _ => rfl)) StR.of
            · obtain rfl := Option.some.inj ho
              refine .inl ⟨rfl, ?_⟩
              refine WpV.toR (wpv_of (wp_loadB 25 _ rfl _ (hpar 9 (.pointer (some ⟨g9, 0, none⟩)) (by kernel_rfl) (by kernel_rfl)) _ _ hSx.2.2.1 _ _ uPoly sPoly) (fun _ _ => rfl)) StR.of
            · obtain rfl := Option.some.inj ho
              refine .inl ⟨rfl, ?_⟩
              have e50 : a.eval (.tmp 50) = .pointer (some ⟨g, 0, none⟩) := hrd 2 _ 50 rfl rfl (by kernel_rfl) (by kernel_rfl)
              have e51 : a.eval (.tmp 51) = .int .i64 p := hrd 3 _ 51 rfl rfl (by kernel_rfl) (by kernel_rfl)
              have e52 : a.eval (.tmp 52) = .agg (u8s 64 f2) := hrd 4 _ 52 rfl rfl (by kernel_rfl) (by kernel_rfl)
              exact wpr_call 55 [.tmp 50, .tmp 51, .tmp 52] _ rfl [.pointer (some ⟨g, 0, none⟩), .int .i64 p, .agg (u8s 64 f2)] (by simp only [List.map_cons, List.map_nil, e50, e51, e52]) Try.call55 ((l01Bad_any B g p f2 w2 hSx.1 hf2.out.1).mono fun _ _ ⟨f, h1, h2, h3, h4⟩ => ⟨_, h1, ⟨f, rfl, h2⟩, h4, fun _ => h3⟩)
            · obtain rfl := Option.some.inj ho
              refine .inl ⟨rfl, ?_⟩
              have e48 : a.eval (.tmp 48) = .int .i64 p := hrd 0 _ 48 rfl rfl (by kernel_rfl) (by kernel_rfl)
              refine WpV.toR (wpv_of (wp_assign _ _ rfl e48) (fun _ _ => rfl)) StR.of
            · obtain rfl := Option.some.inj ho
              exact absurd rfl hiZ
            · obtain rfl := Option.some.inj ho
              exact absurd rfl hiZ2
            · simp at ho
          intro oZ oZ2 hoZ hoZ2 vals xE hR hSx hc0
          obtain rfl := Option.some.inj hoZ
          obtain rfl := Option.some.inj hoZ2
          clear hoZ hoZ2
          have e1 := hc0 1 (by simp) (by decide) (by decide)
          have e6 := hc0 6 (by simp) (by decide) (by decide)
          obtain ⟨f3, e5, hf3⟩ : ∃ h, vals 5 = .agg (u8s 64 h) ∧ By h := hc0 5 (by simp) (by decide) (by decide)
          have e0 := hc0 0 (by simp) (by decide) (by decide)
          have e2 := hc0 2 (by simp) (by decide) (by decide)
          have e3 := hc0 3 (by simp) (by decide) (by decide)
          have e4 := hc0 4 (by simp) (by decide) (by decide)
          simp only [List.getD_cons_zero, List.getD_cons_succ] at e0 e1 e2 e3 e4 e6
          have hz3 := hSx.2.2.2.1
          have hz4 := hSx.2.2.2.2.1
          have hb2 := below_then hb hR.1 (fun k e => by injection e with e; omega)
          clear hc0 hSx h7 h9 hZ3 hZ4 hS hR hb
          refine ⟨rfl, rfl, ?_⟩
          simp only [List.length_cons, List.length_nil, Nat.zero_add, Nat.reduceAdd, List.replicate, seen2, Bool.false_eq_true, if_false, putAll, if_true, Act.put, List.setIfInBounds_toArray, List.set_cons_zero, List.set_cons_succ, e0, e1, e2, e3, e4, e5, e6]
          clear e0 e1 e2 e3 e4 e5 e6
          refine wp_store_arr 25 _ _ rfl g3 rfl (u8s 64 f) rfl (u8s 64 fun _ => 0) _ hz3 sPoly (by simp only [u8s_size]) (u8s_oneCell _ _) ?_
          refine wp_store_arr 25 _ _ rfl g4 rfl (u8s 64 f3) rfl (u8s 64 fun _ => 0) _ (hz4.setRow_other (g := g3) (by omega)) sPoly (by simp only [u8s_size]) (u8s_oneCell _ _) ?_
          go_wp2_with fail
          have hr3 := (hz3.setRow_same (cs := u8s 64 f)).setRow_other (g := g4) (cs := u8s 64 f3) (by omega)
          have hr4 := (hz4.setRow_other (g := g3) (cs := u8s 64 f) (by omega)).setRow_same (cs := u8s 64 f3)
          exact bodyPost_ret (res_tcc (x := .int .i64 p) rfl rfl hr3 uPoly sPoly rfl hr4 uPoly sPoly rfl) rfl ⟨_, _, _, rfl, hp0, hp1, hf.out, hf3, below_setRow (below_setRow hb2 (by omega) _) (by omega) _⟩
        · go_upto_region 11 with ((with_reducible refine wpl_guard ?_); first | (refine wpl_load_arr rfl 25 _ rfl _ rfl _ _ h10 _ _ uPoly sPoly ?_) | (refine wpl_store_arr rfl 25 _ _ rfl _ rfl _ rfl _ _ h7 sPoly (by simp only [u8s_size]) (u8s_oneCell _ _) ?_))
          replace hS := Lib.hid (hS.out.step (grown_row w8 g7 (u8s 64 h)) (fun q e => by injection e with e; omega))
          replace h9 := h9.setRow_other (g := g7) (cs := u8s 64 h) h97
          replace hZ3 := hZ3.setRow_other (g := g7) (cs := u8s 64 h) h37
          replace hZ4 := hZ4.setRow_other (g := g7) (cs := u8s 64 h) h47
          replace hb := below_setRow hb (g := g7) (by omega) (u8s 64 h)
          replace h7 := h7.setRow_same (cs := u8s 64 h)
          generalize w8.setRow g7 (u8s 64 h) = y9 at *
          go_upto_region 11 with (fail)
          refine gen_last2R (w := _) (StR B g) (StR.drew _) StR.refl StR.trans (by kernel_rfl) (by kernel_rfl) (by kernel_rfl) 7 8 (by kernel_rfl)
            (fun i => ([fun v w => v = .int .i64 p, fun v w => v = .agg (u8s 64 h), fun v w => v = .pointer (some ⟨g, 0, none⟩), fun v w => v = .int .i64 p, fun v w => v = .agg (u8s 64 f2), fun v w => ∃ h, v = .agg (u8s 64 h) ∧ By h, fun v w => v = .int .i64 p, fun _ _ => True, fun _ _ => True] : List (Value → World → Prop)).getD i (fun _ _ => True))
            (fun w' => Src B w' g ∧ Blk w' g7 (u8s 64 h) 25 ∧ Blk w' g9 (u8s 64 f2) 25 ∧ Blk w' g3 (u8s 64 (fun _ => 0)) 25 ∧ Blk w' g4 (u8s 64 (fun _ => 0)) 25 ∧ True) ⟨hS.out.step (grown_drewR _ none) (fun q e => by cases e), h7.drew, h9.drew, hZ3.drew, hZ4.drew, trivial⟩ (fun w1 w2 h hb => ⟨hb.2 h.1, h.2.1.grownR hb.1 hn7, h.2.2.1.grownR hb.1 hn9, h.2.2.2.1.grownR hb.1 hn3, h.2.2.2.2.1.grownR hb.1 hn4, trivial⟩) ?_ ?_ ?_
          · intro i v w1 w2 h hb
            rcases i with _|_|_|_|_|_|_|_|_|i
            · exact h
            · exact h
            · exact h
            · exact h
            · exact h
            · exact h
            · exact h
            · exact h
            · exact h
            · exact h
          · intro i o ho hiZ hiZ2 a w2 hR hSx hrd hpar
            rcases i with _|_|_|_|_|_|_|_|_|i
            · obtain rfl := Option.some.inj ho
              refine .inl ⟨rfl, ?_⟩
              have e6 : a.eval (.tmp 6) = .int .i64 p := hpar 6 _ (by kernel_rfl) (by kernel_rfl)
              refine WpV.toR (wpv_of (wp_move _ _ rfl e6) (fun _ _ => rfl)) StR.of
            · obtain rfl := Option.some.inj ho
              refine .inl ⟨rfl, ?_⟩
              refine WpV.toR (wpv_of (wp_loadB 25 _ rfl _ (hpar 7 (.pointer (some ⟨g7, 0, none⟩)) (by kernel_rfl) (by kernel_rfl)) _ _ hSx.2.1 _ _ uPoly sPoly) (fun _ _ => rfl)) StR.of
            · obtain rfl := Option.some.inj ho
              refine .inl ⟨rfl, ?_⟩
              have e5 : a.eval (.tmp 5) = .pointer (some ⟨g, 0, none⟩) := hpar 5 _ (by kernel_rfl) (by kernel_rfl)
              refine WpV.toR (wpv_of (wp_move _ _ rfl e5) (fun _ _ => rfl)) StR.of
            · obtain rfl := Option.some.inj ho
              refine .inl ⟨rfl, ?_⟩
              have e8 : a.eval (.tmp 8) = .int .i64 p := hpar 8 _ (by kernel_rfl) (by kernel_rfl)
              refine WpV.toR (wpv_of (wp_move _ _ rfl e8) (fun _ _ => rfl)) StR.of
            · obtain rfl := Option.some.inj ho
              refine .inl ⟨rfl, ?_⟩
              refine WpV.toR (wpv_of (wp_loadB 25 _ rfl _ (hpar 9 (.pointer (some ⟨g9, 0, none⟩)) (by kernel_rfl) (by kernel_rfl)) _ _ hSx.2.2.1 _ _ uPoly sPoly) (fun _ _ => rfl)) StR.of
            · obtain rfl := Option.some.inj ho
              refine .inl ⟨rfl, ?_⟩
              have e50 : a.eval (.tmp 50) = .pointer (some ⟨g, 0, none⟩) := hrd 2 _ 50 rfl rfl (by kernel_rfl) (by kernel_rfl)
              have e51 : a.eval (.tmp 51) = .int .i64 p := hrd 3 _ 51 rfl rfl (by kernel_rfl) (by kernel_rfl)
              have e52 : a.eval (.tmp 52) = .agg (u8s 64 f2) := hrd 4 _ 52 rfl rfl (by kernel_rfl) (by kernel_rfl)
              exact wpr_call 55 [.tmp 50, .tmp 51, .tmp 52] _ rfl [.pointer (some ⟨g, 0, none⟩), .int .i64 p, .agg (u8s 64 f2)] (by simp only [List.map_cons, List.map_nil, e50, e51, e52]) Try.call55 ((l01Bad_any B g p f2 w2 hSx.1 hf2.out.1).mono fun _ _ ⟨f, h1, h2, h3, h4⟩ => ⟨_, h1, ⟨f, rfl, h2⟩, h4, fun _ => h3⟩)
            · obtain rfl := Option.some.inj ho
              refine .inl ⟨rfl, ?_⟩
              have e48 : a.eval (.tmp 48) = .int .i64 p := hrd 0 _ 48 rfl rfl (by kernel_rfl) (by kernel_rfl)
              refine WpV.toR (wpv_of (wp_assign _ _ rfl e48) (fun _ _ => rfl)) StR.of
            · obtain rfl := Option.some.inj ho
              exact absurd rfl hiZ
            · obtain rfl := Option.some.inj ho
              exact absurd rfl hiZ2
            · simp at ho
          intro oZ oZ2 hoZ hoZ2 vals xE hR hSx hc0
          obtain rfl := Option.some.inj hoZ
          obtain rfl := Option.some.inj hoZ2
          clear hoZ hoZ2
          have e1 := hc0 1 (by simp) (by decide) (by decide)
          have e6 := hc0 6 (by simp) (by decide) (by decide)
          obtain ⟨f3, e5, hf3⟩ : ∃ h, vals 5 = .agg (u8s 64 h) ∧ By h := hc0 5 (by simp) (by decide) (by decide)
          have e0 := hc0 0 (by simp) (by decide) (by decide)
          have e2 := hc0 2 (by simp) (by decide) (by decide)
          have e3 := hc0 3 (by simp) (by decide) (by decide)
          have e4 := hc0 4 (by simp) (by decide) (by decide)
          simp only [List.getD_cons_zero, List.getD_cons_succ] at e0 e1 e2 e3 e4 e6
          have hz3 := hSx.2.2.2.1
          have hz4 := hSx.2.2.2.2.1
          have hb2 := below_then hb hR.1 (fun k e => by injection e with e; omega)
          clear hc0 hSx h7 h9 hZ3 hZ4 hS hR hb
          refine ⟨rfl, rfl, ?_⟩
          simp only [List.length_cons, List.length_nil, Nat.zero_add, Nat.reduceAdd, List.replicate, seen2, Bool.false_eq_true, if_false, putAll, if_true, Act.put, List.setIfInBounds_toArray, List.set_cons_zero, List.set_cons_succ, e0, e1, e2, e3, e4, e5, e6]
          clear e0 e1 e2 e3 e4 e5 e6
          refine wp_store_arr 25 _ _ rfl g3 rfl (u8s 64 h) rfl (u8s 64 fun _ => 0) _ hz3 sPoly (by simp only [u8s_size]) (u8s_oneCell _ _) ?_
          refine wp_store_arr 25 _ _ rfl g4 rfl (u8s 64 f3) rfl (u8s 64 fun _ => 0) _ (hz4.setRow_other (g := g3) (by omega)) sPoly (by simp only [u8s_size]) (u8s_oneCell _ _) ?_
          go_wp2_with fail
          have hr3 := (hz3.setRow_same (cs := u8s 64 h)).setRow_other (g := g4) (cs := u8s 64 f3) (by omega)
          have hr4 := (hz4.setRow_other (g := g3) (cs := u8s 64 h) (by omega)).setRow_same (cs := u8s 64 f3)
          exact bodyPost_ret (res_tcc (x := .int .i64 p) rfl rfl hr3 uPoly sPoly rfl hr4 uPoly sPoly rfl) rfl ⟨_, _, _, rfl, hp0, hp1, hhH.out, hf3, below_setRow (below_setRow hb2 (by omega) _) (by omega) _⟩
    · go_upto_region 11 with (fail)
      go_upto_region 11 with (fail)
      refine gen_last2R (w := _) (StR B g) (StR.drew _) StR.refl StR.trans (by kernel_rfl) (by kernel_rfl) (by kernel_rfl) 7 8 (by kernel_rfl)
        (fun i => ([fun v w => v = .int .i64 p, fun v w => v = .agg (u8s 64 f), fun v w => v = .pointer (some ⟨g, 0, none⟩), fun v w => v = .int .i64 p, fun v w => v = .agg (u8s 64 f2), fun v w => ∃ h, v = .agg (u8s 64 h) ∧ By h, fun v w => v = .int .i64 p, fun _ _ => True, fun _ _ => True] : List (Value → World → Prop)).getD i (fun _ _ => True))
        (fun w' => Src B w' g ∧ Blk w' g7 (u8s 64 f) 25 ∧ Blk w' g9 (u8s 64 f2) 25 ∧ Blk w' g3 (u8s 64 (fun _ => 0)) 25 ∧ Blk w' g4 (u8s 64 (fun _ => 0)) 25 ∧ True) ⟨hS.out.step (grown_drewR _ none) (fun q e => by cases e), h7.drew, h9.drew, hZ3.drew, hZ4.drew, trivial⟩ (fun w1 w2 h hb => ⟨hb.2 h.1, h.2.1.grownR hb.1 hn7, h.2.2.1.grownR hb.1 hn9, h.2.2.2.1.grownR hb.1 hn3, h.2.2.2.2.1.grownR hb.1 hn4, trivial⟩) ?_ ?_ ?_
      · intro i v w1 w2 h hb
        rcases i with _|_|_|_|_|_|_|_|_|i
        · exact h
        · exact h
        · exact h
        · exact h
        · exact h
        · exact h
        · exact h
        · exact h
        · exact h
        · exact h
      · intro i o ho hiZ hiZ2 a w2 hR hSx hrd hpar
        rcases i with _|_|_|_|_|_|_|_|_|i
        · obtain rfl := Option.some.inj ho
          refine .inl ⟨rfl, ?_⟩
          have e6 : a.eval (.tmp 6) = .int .i64 p := hpar 6 _ (by kernel_rfl) (by kernel_rfl)
          refine WpV.toR (wpv_of (wp_move _ _ rfl e6) (fun _ _ => rfl)) StR.of
        · obtain rfl := Option.some.inj ho
          refine .inl ⟨rfl, ?_⟩
          refine WpV.toR (wpv_of (wp_loadB 25 _ rfl _ (hpar 7 (.pointer (some ⟨g7, 0, none⟩)) (by kernel_rfl) (by kernel_rfl)) _ _ hSx.2.1 _ _ uPoly sPoly) (fun _ _ => rfl)) StR.of
        · obtain rfl := Option.some.inj ho
          refine .inl ⟨rfl, ?_⟩
          have e5 : a.eval (.tmp 5) = .pointer (some ⟨g, 0, none⟩) := hpar 5 _ (by kernel_rfl) (by kernel_rfl)
          refine WpV.toR (wpv_of (wp_move _ _ rfl e5) (fun _ _ => rfl)) StR.of
        · obtain rfl := Option.some.inj ho
          refine .inl ⟨rfl, ?_⟩
          have e8 : a.eval (.tmp 8) = .int .i64 p := hpar 8 _ (by kernel_rfl) (by kernel_rfl)
          refine WpV.toR (wpv_of (wp_move _ _ rfl e8) (fun _ _ => rfl)) StR.of
        · obtain rfl := Option.some.inj ho
          refine .inl ⟨rfl, ?_⟩
          refine WpV.toR (wpv_of (wp_loadB 25 _ rfl _ (hpar 9 (.pointer (some ⟨g9, 0, none⟩)) (by kernel_rfl) (by kernel_rfl)) _ _ hSx.2.2.1 _ _ uPoly sPoly) (fun _ _ => rfl)) StR.of
        · obtain rfl := Option.some.inj ho
          refine .inl ⟨rfl, ?_⟩
          have e50 : a.eval (.tmp 50) = .pointer (some ⟨g, 0, none⟩) := hrd 2 _ 50 rfl rfl (by kernel_rfl) (by kernel_rfl)
          have e51 : a.eval (.tmp 51) = .int .i64 p := hrd 3 _ 51 rfl rfl (by kernel_rfl) (by kernel_rfl)
          have e52 : a.eval (.tmp 52) = .agg (u8s 64 f2) := hrd 4 _ 52 rfl rfl (by kernel_rfl) (by kernel_rfl)
          exact wpr_call 55 [.tmp 50, .tmp 51, .tmp 52] _ rfl [.pointer (some ⟨g, 0, none⟩), .int .i64 p, .agg (u8s 64 f2)] (by simp only [List.map_cons, List.map_nil, e50, e51, e52]) Try.call55 ((l01Bad_any B g p f2 w2 hSx.1 hf2.out.1).mono fun _ _ ⟨f, h1, h2, h3, h4⟩ => ⟨_, h1, ⟨f, rfl, h2⟩, h4, fun _ => h3⟩)
        · obtain rfl := Option.some.inj ho
          refine .inl ⟨rfl, ?_⟩
          have e48 : a.eval (.tmp 48) = .int .i64 p := hrd 0 _ 48 rfl rfl (by kernel_rfl) (by kernel_rfl)
          refine WpV.toR (wpv_of (wp_assign _ _ rfl e48) (fun _ _ => rfl)) StR.of
        · obtain rfl := Option.some.inj ho
          exact absurd rfl hiZ
        · obtain rfl := Option.some.inj ho
          exact absurd rfl hiZ2
        · simp at ho
      intro oZ oZ2 hoZ hoZ2 vals xE hR hSx hc0
      obtain rfl := Option.some.inj hoZ
      obtain rfl := Option.some.inj hoZ2
      clear hoZ hoZ2
      have e1 := hc0 1 (by simp) (by decide) (by decide)
      have e6 := hc0 6 (by simp) (by decide) (by decide)
      obtain ⟨f3, e5, hf3⟩ : ∃ h, vals 5 = .agg (u8s 64 h) ∧ By h := hc0 5 (by simp) (by decide) (by decide)
      have e0 := hc0 0 (by simp) (by decide) (by decide)
      have e2 := hc0 2 (by simp) (by decide) (by decide)
      have e3 := hc0 3 (by simp) (by decide) (by decide)
      have e4 := hc0 4 (by simp) (by decide) (by decide)
      simp only [List.getD_cons_zero, List.getD_cons_succ] at e0 e1 e2 e3 e4 e6
      have hz3 := hSx.2.2.2.1
      have hz4 := hSx.2.2.2.2.1
      have hb2 := below_then hb hR.1 (fun k e => by injection e with e; omega)
      clear hc0 hSx h7 h9 hZ3 hZ4 hS hR hb
      refine ⟨rfl, rfl, ?_⟩
      simp only [List.length_cons, List.length_nil, Nat.zero_add, Nat.reduceAdd, List.replicate, seen2, Bool.false_eq_true, if_false, putAll, if_true, Act.put, List.setIfInBounds_toArray, List.set_cons_zero, List.set_cons_succ, e0, e1, e2, e3, e4, e5, e6]
      clear e0 e1 e2 e3 e4 e5 e6
      refine wp_store_arr 25 _ _ rfl g3 rfl (u8s 64 f) rfl (u8s 64 fun _ => 0) _ hz3 sPoly (by simp only [u8s_size]) (u8s_oneCell _ _) ?_
      refine wp_store_arr 25 _ _ rfl g4 rfl (u8s 64 f3) rfl (u8s 64 fun _ => 0) _ (hz4.setRow_other (g := g3) (by omega)) sPoly (by simp only [u8s_size]) (u8s_oneCell _ _) ?_
      go_wp2_with fail
      have hr3 := (hz3.setRow_same (cs := u8s 64 f)).setRow_other (g := g4) (cs := u8s 64 f3) (by omega)
      have hr4 := (hz4.setRow_other (g := g3) (cs := u8s 64 f) (by omega)).setRow_same (cs := u8s 64 f3)
      exact bodyPost_ret (res_tcc (x := .int .i64 p) rfl rfl hr3 uPoly sPoly rfl hr4 uPoly sPoly rfl) rfl ⟨_, _, _, rfl, hp0, hp1, hf.out, hf3, below_setRow (below_setRow hb2 (by omega) _) (by omega) _⟩
end Go.Proofs.Ytddgbnkojdmekaa
