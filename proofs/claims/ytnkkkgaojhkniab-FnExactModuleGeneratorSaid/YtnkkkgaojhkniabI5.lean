/- Walks: the order of a vector, on the program's side. -/
import Derived.Test.YtnkkkgaojhkniabI4
import Derived.Test.YtnkkkgaojhkniabM9
set_option linter.unusedVariables false
set_option linter.unusedSimpArgs false
namespace Go.Proofs.Ytnkkkgaojhkniab
open Go.RowKit
/-- What the closure keeps: its box, and what is older. -/
def OrS (x : Nat → List Int) (w2 : World) (k : Nat) (w1 : World) : Prop := Below w2.heap.size w2 w1 ∧ w2.heap.size < w1.heap.size ∧ ∃ v, Blk w1 w2.heap.size #[v] 55 ∧ IsRow w1 v (x k)
theorem SBlk.of_one {w : World} {g : Nat} {v : Value} {xs : List Int} {t : TypeId} (h : Blk w g #[v] t) (hv : IsRow w v xs) : SBlk w g := fun i u hu => by
  rw [h.cell] at hu
  obtain ⟨a, c, rfl⟩ := hv.sl
  cases i with
  | zero => exact ⟨a, _, c, (Option.some.inj hu).symm⟩
  | succ i => simp at hu
theorem OrS.keep {x : Nat → List Int} {w2 : World} {k : Nat} {w1 w' : World} {row : Option Nat} (h : OrS x w2 k w1) (hg : w1.grownBy w' row) (hr : ∀ g, row = some g → w2.heap.size < g ∧ SBlk w1 g) : OrS x w2 k w' := by
  obtain ⟨h1, h2, v, h3, h4⟩ := h
  refine ⟨h1.trans (grownK_below hg (fun k e => Nat.le_of_lt (hr k e).1) (Nat.le_of_lt h2)), Nat.lt_of_lt_of_le h2 hg.size, v, ?_, h4.keptS hg fun g e => (hr g e).2⟩
  unfold Blk
  rw [hg.block _ h2 fun e => by have := (hr _ e.symm).1; omega]; exact h3
theorem OrS.box {x : Nat → List Int} {w2 : World} {k : Nat} {w1 : World} (h : OrS x w2 k w1) : SBlk w1 w2.heap.size := by
  obtain ⟨_, _, v, h3, h4⟩ := h
  exact SBlk.of_one h3 h4
set_option maxRecDepth 20000 in
set_option maxHeartbeats 1000000 in
theorem orderF_any (p : Int) (n : Nat) (F : Nat → Int) (M : Nat → List Int) (x : Nat → List Int) (vs : Value) (g0 g1 : Nat) (w2 : World) (hM : Mx p n F M) (hx : ∀ k, x (k + 1) = led p M (x k)) (hpx : ∀ k, Po p (x k)) (hxn : ∀ k, (x k).length ≤ n)
    (hp0 : w2.cell? ⟨g0, 0, none⟩ = some (.int .i64 p)) (hs0 : w2.cell? ⟨g1, 0, none⟩ = some vs) (hs : IsRows w2 vs n M) (k : Nat) (w : World) (h : OrS x w2 k w) :
    Calls Try.prog 81 #[.pointer (some ⟨w2.heap.size, 0, none⟩), .pointer (some ⟨g0, 0, none⟩), .pointer (some ⟨g1, 0, none⟩)] w fun e w' => ∃ v, e = .returned v ∧ IsRow w' v (x k) ∧ OrS x w2 (k + 1) w' ∧ w.grownBy w' (some w2.heap.size) := by
  obtain ⟨hb, hsz, v, hB, hv⟩ := h
  have c0 := cell_below hp0 hb
  have c1 := cell_below hs0 hb
  have c2 : w.cell? ⟨w2.heap.size, 0, none⟩ = some v := by rw [hB.cell]; rfl
  have H1 := Lib.hid (leads_any vs v p n F M (x k) w hM (hs.below hb) hv (hpx k) (hxn k))
  have hvH := Lib.hid hv
  have hSB := Lib.hid (SBlk.of_one hB hv)
  have hxk := Lib.hid (hx k)
  obtain ⟨_, os, cs, rfl, _⟩ := hs
  obtain ⟨av, cv, rfl⟩ := hv.sl
  obtain ⟨gB, hgB⟩ : ∃ gB, w2.heap.size = gB := ⟨_, rfl⟩
  unfold OrS
  rw [hgB] at hb hsz hB c2 hSB ⊢
  have hbH := Lib.hid hb
  clear hM hx hpx hxn hp0 hs0 hv hb hgB
  go_enter Try.func81, Try.ntmps81
  go_wp2_with fail
  refine H1.out.mono ?_
  rintro e w3 ⟨u, rfl, hu, hn⟩
  have hB3 := hB.keep hn
  have c3 := hB3.free 0
  have c4 : w3.cell? ⟨gB, 0, none⟩ = some (.slice av (x k).length cv) := by rw [hB3.cell]; rfl
  have hg1 := belowK_grown hn (some gB)
  have hg2 : w3.grownBy (w3.setCell ⟨gB, 0, none⟩ u) (some gB) := ⟨rfl, rfl, rfl, by simp, fun k _ hk => heap_setCell_other w3 ⟨gB, 0, none⟩ k u (fun e => hk (by simp [e]))⟩
  have hSB3 : ∀ g, some gB = some g → SBlk w3 g := fun g e => by cases e; exact SBlk.of_one hB3 (hvH.out.below hn)
  have hB4 := hB3.set 0 u
  have hu4 := Lib.hid (hu.keptS hg2 hSB3)
  have hv4 := Lib.hid ((hvH.out.below hn).keptS hg2 hSB3)
  have hb4 := Lib.hid (hbH.out.trans (grownK_below (grownK_trans hg1 hg2) (fun k e => by cases e; exact Nat.le_refl _) (Nat.le_of_lt hsz)))
  have hg4 := Lib.hid (grownK_trans hg1 hg2)
  have hsz4 : gB < (w3.setCell ⟨gB, 0, none⟩ u).heap.size := Nat.lt_of_lt_of_le hsz hg4.out.size
  obtain ⟨au, cu, rfl⟩ := hu.sl
  have hB5 := Lib.hid hB4
  have hszH := Lib.hid hsz4
  clear hB hB3 hB4 hn hu hg1 hg2 hSB3 hsz4 hsz
  go_wp2_with fail
  go_ret
  refine ⟨_, rfl, hv4.out, ⟨hb4.out, hszH.out, _, hB5.out, by rw [hxk.out]; exact hu4.out⟩, hg4.out⟩
set_option maxRecDepth 20000 in
set_option maxHeartbeats 1000000 in
theorem orderOf_any (p : Int) (n : Nat) (F : Nat → Int) (M : Nat → List Int) (xs : List Int) (vs vx : Value) (kk : Nat) (c : List Int) (w : World) (hM : Mx p n F M) (hs : IsRows w vs n M) (hx : IsRow w vx xs) (hpx : Po p xs) (hxn : xs.length ≤ n)
    (hc : Rel p (fun j => cf (lpw p M xs j)) kk c) (hmin : ∀ j, j < kk → ¬ ∃ e, Rel p (fun j => cf (lpw p M xs j)) j e) :
    Calls Try.prog 45 #[.int .i64 p, vs, vx] w fun e w' => ∃ v, e = .returned v ∧ IsRow w' v c ∧ Below w.heap.size w w' := by
  have hp2 := hM.pr.pos
  obtain ⟨_, os, cs, rfl, _⟩ := id hs
  obtain ⟨av, cv, rfl⟩ := hx.sl
  obtain ⟨w2, hw2⟩ : ∃ w2, (w.alloc (.cells #[.int .i64 p] 50)).alloc (.cells #[.slice os n cs] 49) = w2 := ⟨_, rfl⟩
  have hb2 : Below w.heap.size w w2 := hw2 ▸ (below_new w _).alloc (by simp) _
  have hz2 : w2.heap.size = w.heap.size + 1 + 1 := by rw [← hw2]; simp
  have hc0 : w2.cell? ⟨w.heap.size, 0, none⟩ = some (.int .i64 p) := by rw [← hw2, ((Blk.new w #[.int .i64 p] 50).alloc _).cell]; rfl
  have hc1 : w2.cell? ⟨w.heap.size + 1, 0, none⟩ = some (.slice os n cs) := by rw [← hw2, (Blk.newAt (w := w.alloc (.cells #[.int .i64 p] 50)) (n := w.heap.size + 1) (by simp) #[.slice os n cs] 49).cell]; rfl
  have hF := orderF_any p n F M (lpw p M xs) (.slice os n cs) w.heap.size (w.heap.size + 1) w2 hM (fun _ => rfl) (lpw_Po hp2.1 hpx) (lpw_len hM.le hxn) hc0 hc1 (hs.below hb2)
  have hb3 := below_new w2 (.cells #[.slice av xs.length cv] 55)
  have hR := Lib.hid (relation_any 81 #[.pointer (some ⟨w2.heap.size, 0, none⟩), .pointer (some ⟨w.heap.size, 0, none⟩), .pointer (some ⟨w.heap.size + 1, 0, none⟩)] p (lpw p M xs) n kk c (OrS (lpw p M xs) w2) w2.heap.size
    (w2.alloc (.cells #[.slice av xs.length cv] 55)) (fun w => Try.call81 _ w) hM.pr (lpw_Po hp2.1 hpx) (lpw_len hM.le hxn) (by have := hM.n6; omega) hF (fun k w1 w' row h1 h2 h3 => h1.keep h2 fun g e => by have := h3 g e; rw [size_alloc] at this; exact ⟨by omega, this.2⟩)
    (fun k w h => h.box) (by simp) ⟨hb3, by simp, _, Blk.new w2 _ _, (hx.below hb2).below hb3⟩ hc hmin)
  rw [hz2] at hR
  have cX := cell_below hc0 hb3
  have hbH := Lib.hid (hb2.trans (hb3.mono hb2.size))
  clear hF hc0 hc1 hb2 hb3 hM hs hx hpx hxn hc hmin
  go_enter Try.func45, Try.ntmps45
  go_wp2_with fail
  refine hR.out.mono ?_
  rintro e w4 ⟨v, rfl, hv, hg⟩
  have hvH := Lib.hid hv
  have hgH := Lib.hid hg
  clear hv hg
  go_wp2_with fail
  go_ret
  exact ⟨_, rfl, hvH.out, hbH.out.trans (grownK_below hgH.out (fun k e => by cases e; omega) (by simp; omega))⟩
end Go.Proofs.Ytnkkkgaojhkniab
