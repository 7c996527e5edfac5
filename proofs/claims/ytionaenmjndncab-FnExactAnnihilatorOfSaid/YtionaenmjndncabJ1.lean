/- Walks: the annihilator of a residue, on the program's side. -/
import Derived.Test.YtionaenmjndncabI4
import Derived.Test.YtionaenmjndncabE13
set_option linter.unusedVariables false
set_option linter.unusedSimpArgs false
namespace Go.Proofs.Ytionaenmjndncab
open Go.RowKit
/-- What the closure keeps: its box, and all else as it was. -/
def AnS (x : Nat → List Int) (wB : World) (gB k : Nat) (w1 : World) : Prop := wB.grownBy w1 (some gB) ∧ gB < w1.heap.size ∧ ∃ v, Blk w1 gB #[v] 48 ∧ IsRow w1 v (x k)
theorem SBlk.of_oneA {w : World} {g : Nat} {v : Value} {xs : List Int} {t : TypeId} (h : Blk w g #[v] t) (hv : IsRow w v xs) : SBlk w g := fun i u hu => by
  rw [h.cell] at hu
  obtain ⟨a, c, rfl⟩ := hv.sl
  cases i with
  | zero => exact ⟨a, _, c, (Option.some.inj hu).symm⟩
  | succ i => simp at hu
theorem AnS.keep {x : Nat → List Int} {wB : World} {gB k : Nat} {w1 w' : World} {row : Option Nat} (hlt : gB < wB.heap.size) (h : AnS x wB gB k w1) (hg : w1.grownBy w' row) (hr : ∀ g, row = some g → wB.heap.size ≤ g ∧ SBlk w1 g) : AnS x wB gB k w' := by
  obtain ⟨h1, h2, v, h3, h4⟩ := h
  refine ⟨grownK_past h1 hg fun g e => (hr g e).1, Nat.lt_of_lt_of_le h2 hg.size, v, ?_, h4.keptS hg fun g e => (hr g e).2⟩
  unfold Blk
  rw [hg.block _ h2 fun e => by have := (hr _ e.symm).1; omega]; exact h3
theorem AnS.box {x : Nat → List Int} {wB : World} {gB k : Nat} {w1 : World} (h : AnS x wB gB k w1) : SBlk w1 gB := by
  obtain ⟨_, _, v, h3, h4⟩ := h
  exact SBlk.of_oneA h3 h4
set_option maxRecDepth 20000 in
set_option maxHeartbeats 1000000 in
theorem annF_any (p : Int) (ms : List Int) (x : Nat → List Int) (vm : Value) (g0 gB g2 : Nat) (wB : World) (hp : Pr p) (hx : ∀ k, x (k + 1) = stp p ms (x k)) (hpx : ∀ k, Po p (x k)) (hxn : ∀ k, (x k).length ≤ 64) (hpm : Po p ms) (hne : ms ≠ []) (lm : ms.length ≤ 64)
    (hp0 : wB.cell? ⟨g0, 0, none⟩ = some (.int .i64 p)) (hm0 : wB.cell? ⟨g2, 0, none⟩ = some vm) (hm : IsRow wB vm ms) (h0 : g0 ≠ gB) (h2 : g2 ≠ gB) (hSB : SBlk wB gB) (k : Nat) (w : World) (h : AnS x wB gB k w) :
    Calls Try.prog 81 #[.pointer (some ⟨gB, 0, none⟩), .pointer (some ⟨g0, 0, none⟩), .pointer (some ⟨g2, 0, none⟩)] w fun e w' => ∃ v, e = .returned v ∧ IsRow w' v (x k) ∧ AnS x wB gB (k + 1) w' ∧ w.grownBy w' (some gB) := by
  obtain ⟨hb, hsz, v, hB, hv⟩ := h
  have c0 : w.cell? ⟨g0, 0, none⟩ = some (.int .i64 p) := hb.cell hp0 (by intro e; injection e with e; exact h0 e)
  have c1 : w.cell? ⟨g2, 0, none⟩ = some vm := hb.cell hm0 (by intro e; injection e with e; exact h2 e)
  have c2 : w.cell? ⟨gB, 0, none⟩ = some v := by rw [hB.cell]; rfl
  have hmw : IsRow w vm ms := hm.keptS hb fun g e => by cases e; exact hSB
  have H1 := Lib.hid (step_any v vm (x k) ms p w hp hv hmw (hpx k) hpm hne (hxn k) lm)
  have hvH := Lib.hid hv
  have hxk := Lib.hid (hx k)
  obtain ⟨am, cm, rfl⟩ := hm.sl
  obtain ⟨av, cv, rfl⟩ := hv.sl
  unfold AnS
  have hbH := Lib.hid hb
  clear hx hpx hxn hpm hne lm hp0 hm0 hm h0 h2 hSB hv hb hmw hp
  go_enter Try.func81, Try.ntmps81
  go_wp2_with fail
  refine H1.out.mono ?_
  rintro e w3 ⟨u, rfl, hu, hn⟩
  have hB3 := hB.keep hn
  have c3 := hB3.free 0
  have c4 : w3.cell? ⟨gB, 0, none⟩ = some (.slice av (x k).length cv) := by rw [hB3.cell]; rfl
  have hg1 := belowK_grown hn (some gB)
  have hg2 : w3.grownBy (w3.setCell ⟨gB, 0, none⟩ u) (some gB) := ⟨rfl, rfl, rfl, by simp, fun k _ hk => heap_setCell_other w3 ⟨gB, 0, none⟩ k u (fun e => hk (by simp [e]))⟩
  have hSB3 : ∀ g, some gB = some g → SBlk w3 g := fun g e => by cases e; exact SBlk.of_oneA hB3 (hvH.out.below hn)
  have hB4 := hB3.set 0 u
  have hu4 := Lib.hid (hu.keptS hg2 hSB3)
  have hv4 := Lib.hid ((hvH.out.below hn).keptS hg2 hSB3)
  have hg4 := Lib.hid (grownK_trans hg1 hg2)
  have hsz4 : gB < (w3.setCell ⟨gB, 0, none⟩ u).heap.size := Nat.lt_of_lt_of_le hsz hg4.out.size
  obtain ⟨au, cu, rfl⟩ := hu.sl
  have hB5 := Lib.hid hB4
  have hszH := Lib.hid hsz4
  have hbb := Lib.hid (grownK_trans hbH.out hg4.out)
  clear hB hB3 hB4 hn hu hg1 hg2 hSB3 hsz4 hsz
  go_wp2_with fail
  go_ret
  refine ⟨_, rfl, hv4.out, ⟨hbb.out, hszH.out, _, hB5.out, by rw [hxk.out]; exact hu4.out⟩, hg4.out⟩
set_option maxRecDepth 20000 in
set_option maxHeartbeats 2000000 in
theorem annihilator_any (p : Int) (xs ms : List Int) (vx vm : Value) (kk : Nat) (c : List Int) (w : World) (hp : Pr p) (hx : IsRow w vx xs) (hm : IsRow w vm ms) (hpx : Po p xs) (hpm : Po p ms) (hne : ms ≠ []) (lx : xs.length ≤ 64) (lm : ms.length ≤ 6)
    (hc : Rel p (fun j => cf (stpN p ms (rst p xs ms) j)) kk c) (hmin : ∀ j, j < kk → ¬ ∃ e, Rel p (fun j => cf (stpN p ms (rst p xs ms) j)) j e) :
    Calls Try.prog 57 #[.int .i64 p, vx, vm] w fun e w' => ∃ v, e = .returned v ∧ IsRow w' v c ∧ Below w.heap.size w w' := by
  have hp2 := hp.pos
  have hsN := stpN_ok hp (rst_Po hp hpx hpm hne) (rst_lt hp hpx hpm hne) hpm hne
  obtain ⟨ax, cx, rfl⟩ := hx.sl
  obtain ⟨am, cm, rfl⟩ := hm.sl
  obtain ⟨w2, hw2⟩ : ∃ w2, ((w.alloc (.cells #[.int .i64 p] 49)).alloc (.cells #[.slice ax xs.length cx] 48)).alloc (.cells #[.slice am ms.length cm] 48) = w2 := ⟨_, rfl⟩
  have hb2 : Below w.heap.size w w2 := hw2 ▸ ((below_new w _).alloc (by simp) _).alloc (by simp; omega) _
  have hB0 : Blk w2 w.heap.size #[.int .i64 p] 49 := hw2 ▸ ((Blk.new w #[.int .i64 p] 49).alloc _).alloc _
  have hB1 : Blk w2 (w.heap.size + 1) #[.slice ax xs.length cx] 48 := hw2 ▸ (Blk.newAt (w := w.alloc (.cells #[.int .i64 p] 49)) (n := w.heap.size + 1) (by simp) #[.slice ax xs.length cx] 48).alloc _
  have hB2 : Blk w2 (w.heap.size + 1 + 1) #[.slice am ms.length cm] 48 := hw2 ▸ Blk.newAt (w := (w.alloc (.cells #[.int .i64 p] 49)).alloc (.cells #[.slice ax xs.length cx] 48)) (n := w.heap.size + 1 + 1) (by simp) #[.slice am ms.length cm] 48
  have hz2 : w2.heap.size = w.heap.size + 1 + 1 + 1 := by rw [← hw2]; simp
  have c0 : w2.cell? ⟨w.heap.size, 0, none⟩ = some (.int .i64 p) := by rw [hB0.cell]; rfl
  have c1 : w2.cell? ⟨w.heap.size + 1, 0, none⟩ = some (.slice ax xs.length cx) := by rw [hB1.cell]; rfl
  have c2 : w2.cell? ⟨w.heap.size + 1 + 1, 0, none⟩ = some (.slice am ms.length cm) := by rw [hB2.cell]; rfl
  have hrs := Lib.hid (rest_any _ _ xs ms p w2 hp (hx.below hb2) (hm.below hb2) hpx hpm hne (by omega) (by omega))
  have hR := Lib.hid (fun (w3 : World) (u : Value) (hu : IsRow w3 u (rst p xs ms)) (hn : Below w2.heap.size w2 w3) => by
    have hB1' := hB1.keep hn
    have hg2 : w3.grownBy (w3.setCell ⟨w.heap.size + 1, 0, none⟩ u) (some (w.heap.size + 1)) := ⟨rfl, rfl, rfl, by simp, fun k _ hk => heap_setCell_other w3 ⟨w.heap.size + 1, 0, none⟩ k u (fun e => hk (by simp [e]))⟩
    have hS3 : SBlk w3 (w.heap.size + 1) := SBlk.of_oneA hB1' ((hx.below hb2).below hn)
    have hm3 := ((hm.below hb2).below hn).keptS hg2 fun g e => by cases e; exact hS3
    have hu3 := hu.keptS hg2 fun g e => by cases e; exact hS3
    have hBu := hB1'.set 0 u
    have hP3 : Blk (w3.setCell ⟨w.heap.size + 1, 0, none⟩ u) w.heap.size #[.int .i64 p] 49 := (hB0.keep hn).set_other _ _ (by show w.heap.size ≠ w.heap.size + 1; omega)
    have hM3 : Blk (w3.setCell ⟨w.heap.size + 1, 0, none⟩ u) (w.heap.size + 1 + 1) #[.slice am ms.length cm] 48 := (hB2.keep hn).set_other _ _ (by show w.heap.size + 1 + 1 ≠ w.heap.size + 1; omega)
    have hsz : w.heap.size + 1 < (w3.setCell ⟨w.heap.size + 1, 0, none⟩ u).heap.size := by have := hn.size; simp only [World.size_setCell]; omega
    have hF := annF_any p ms (stpN p ms (rst p xs ms)) (.slice am ms.length cm) w.heap.size (w.heap.size + 1) (w.heap.size + 1 + 1) (w3.setCell ⟨w.heap.size + 1, 0, none⟩ u) hp (fun _ => rfl) (fun k => (hsN k).1) (fun k => by have := (hsN k).2; omega) hpm hne (by omega)
      (by rw [hP3.cell]; rfl) (by rw [hM3.cell]; rfl) hm3 (by omega) (by omega) (SBlk.of_oneA hBu hu3)
    exact relation_any 81 #[.pointer (some ⟨w.heap.size + 1, 0, none⟩), .pointer (some ⟨w.heap.size, 0, none⟩), .pointer (some ⟨w.heap.size + 1 + 1, 0, none⟩)] p (stpN p ms (rst p xs ms)) ms.length kk c (AnS (stpN p ms (rst p xs ms)) (w3.setCell ⟨w.heap.size + 1, 0, none⟩ u) (w.heap.size + 1)) (w.heap.size + 1)
      (w3.setCell ⟨w.heap.size + 1, 0, none⟩ u) (fun w => Try.call81 _ w) hp (fun k => (hsN k).1) (fun k => Nat.le_of_lt (hsN k).2) (by omega) hF (fun k w1 w' row h1 h2 h3 => h1.keep hsz h2 h3)
      (fun k w h => h.box) hsz ⟨World.grownBy.refl _ _, hsz, _, hBu, hu3⟩ hc hmin)
  have hbH := Lib.hid hb2
  have hB1H := Lib.hid hB1
  have hc0 := Lib.hid c0
  clear hp hx hm hpx hpm hne hc hmin hsN hb2 hB0 hB1 hB2 lx lm hp2
  go_enter Try.func57, Try.ntmps57
  go_wp2_with fail
  refine hrs.out.mono ?_
  rintro e w3 ⟨u, rfl, hu, hn⟩
  have hR3 := Lib.hid (hR.out w3 u hu hn)
  have hB3 := hB1H.out.keep hn
  have c3 := hB3.free 0
  have c4 : w3.cell? ⟨w.heap.size + 1, 0, none⟩ = some (.slice ax xs.length cx) := by rw [hB3.cell]; rfl
  have c5 : w3.cell? ⟨w.heap.size, 0, none⟩ = some (.int .i64 p) := cell_below hc0.out hn
  have hb3 : Below w.heap.size w (w3.setCell ⟨w.heap.size + 1, 0, none⟩ u) := (below_step hbH.out hn).setCell (by show w.heap.size ≤ w.heap.size + 1; omega) _
  have hb3H := Lib.hid hb3
  obtain ⟨au, cu, rfl⟩ := hu.sl
  clear hu hn hR hrs hB3 hB1H hb3 hbH c0 c1 c2
  go_wp2_with fail
  refine hR3.out.mono ?_
  rintro e w4 ⟨v, rfl, hv, hg⟩
  have hvH := Lib.hid hv
  have hgH := Lib.hid hg
  clear hv hg
  go_wp2_with fail
  go_ret
  exact ⟨_, rfl, hvH.out, hb3H.out.trans (grownK_below hgH.out (fun k e => by cases e; omega) hb3H.out.size)⟩
end Go.Proofs.Ytionaenmjndncab
