/- Walks: rows of a list of polynomials. -/
import Derived.Test.YtionaenmjndncabG6
set_option linter.unusedVariables false
set_option linter.unusedSimpArgs false
namespace Go.Proofs.Ytionaenmjndncab
open Go.RowKit
/-- The block of a slice of rows is no block of numbers. -/
theorem rows_ne {w : World} {base n : Nat} {v r : Value} {vs : List Value} (h : w.ownsRow base 48 1 v n vs) (hr : RowT w r) : ∀ k, r.ownBlock = some k → some k ≠ v.ownBlock := fun k hk e => by
  obtain ⟨cur, fz, he⟩ := hr k hk
  rcases h.2 with ⟨rfl, _⟩ | ⟨g, cap, cur', rfl, _, hg, _⟩
  · cases e
  · obtain rfl : k = g := by simpa [Value.ownBlock] using e
    rw [he] at hg
    injection hg with hg; injection hg with _ h2
    exact absurd h2 (by decide)
theorem IsRow.grown {w w' : World} {r v : Value} {xs : List Int} (h : IsRow w r xs) (hg : w.grownBy w' v.ownBlock) (hne : ∀ k, r.ownBlock = some k → some k ≠ v.ownBlock) : IsRow w' r xs := by
  obtain ⟨oa, cap, rfl, h2, h3, h4⟩ := h
  refine ⟨oa, cap, rfl, h2, h3, fun hl => ?_⟩
  obtain ⟨b, off, rfl, h6⟩ := h4 hl
  exact ⟨b, off, rfl, fun i hi => hg.cell (h6 i hi) (hne b rfl)⟩
theorem RowT.grown {w w' : World} {r v : Value} (h : RowT w r) (hg : w.grownBy w' v.ownBlock) (hne : ∀ k, r.ownBlock = some k → some k ≠ v.ownBlock) : RowT w' r := fun k hk => by
  obtain ⟨cur, fz, he⟩ := h k hk
  exact ⟨cur, fz, by rw [hg.block k (Array.getElem?_eq_some_iff.1 he).1 (hne k hk)]; exact he⟩
/-- Rows that grow, with their blocks' type. -/
def RwT (w : World) (B : Nat) (v : Value) (n : Nat) (R : Nat → Value) (M : Nat → List Int) : Prop := RwO w B v n R M ∧ ∀ i, i < n → RowT w (R i)
theorem RwT.below {w w' : World} {B : Nat} {v : Value} {n : Nat} {R : Nat → Value} {M : Nat → List Int} (h : RwT w B v n R M) (hb : Below w.heap.size w w') : RwT w' B v n R M := ⟨h.1.below hb, fun i hi => (h.2 i hi).below hb⟩
theorem RwT.snoc {w w' : World} {B k : Nat} {v v' r : Value} {R : Nat → Value} {M : Nat → List Int} (h : RwT w B v k R M) (hr : IsRow w r (M k)) (ht : RowT w r)
    (ho : w'.ownsRow B 48 1 v' (k + 1) ((List.range k).map R ++ [r])) (hg : w.grownBy w' v.ownBlock) : RwT w' B v' (k + 1) (fun q => if q = k then r else R q) M := by
  refine ⟨⟨?_, fun i hi => ?_⟩, fun i hi => ?_⟩
  · rw [List.range_succ, List.map_append]
    have e : (List.range k).map (fun q => if q = k then r else R q) = (List.range k).map R := List.map_congr_left fun q hq => if_neg (by have := List.mem_range.1 hq; omega)
    rw [e]
    simpa using ho
  · show IsRow w' (if i = k then r else R i) (M i)
    by_cases e : i = k
    · subst e; rw [if_pos rfl]; exact hr.grown hg (rows_ne h.1.1 ht)
    · rw [if_neg e]; exact (h.1.2 i (by omega)).grown hg (rows_ne h.1.1 (h.2 i (by omega)))
  · show RowT w' (if i = k then r else R i)
    by_cases e : i = k
    · subst e; rw [if_pos rfl]; exact ht.grown hg (rows_ne h.1.1 ht)
    · rw [if_neg e]; exact (h.2 i (by omega)).grown hg (rows_ne h.1.1 (h.2 i (by omega)))
set_option maxRecDepth 20000 in
set_option maxHeartbeats 1000000 in
theorem rows_any (v : Value) (n B : Nat) (F : Nat → Int) (w : World) (hF : By F) (h : Fl w B v n F) (hn : n ≤ 10000000) :
    Calls Try.prog 45 #[v] w fun e w' => ∃ u R, e = .returned u ∧ RwT w' w.heap.size u n R (fun q => mkp 64 (fun r => F (q * 64 + r))) ∧ Below w.heap.size w w' := by
  obtain ⟨oa, cap, rfl, hC⟩ := h.at
  have hCH := Lib.hid hC
  have hFH := Lib.hid hF
  clear h hC hF
  go_enter Try.func45, Try.ntmps45
  go_wp2_with fail
  go_loopw [3, 8] (fun u iv wr => ∃ (k : Nat) (R : Nat → Value), k ≤ n ∧ iv = .int .i64 (k : Int) ∧ Hid (RwT wr w.heap.size u k R (fun q => mkp 64 (fun r => F (q * 64 + r)))) ∧ Below w.heap.size w wr) (fun _ iv _ => n - (intOf iv).toNat)
  case atStart => exact ⟨0, fun _ => .slice none 0 0, by omega, rfl, Lib.hid ⟨⟨World.ownsRow_nil _ _ _ _, fun i hi => absurd hi (by omega)⟩, fun i hi => absurd hi (by omega)⟩, Below.refl _ _⟩
  case round =>
    obtain ⟨k, R, hk, rfl, hR, hb⟩ := hrel
    by_cases hlt : k < n
    · obtain ⟨g, o, rfl, hcell⟩ := hCH.out (by omega)
      have hcl := Lib.hid (show ∀ r, r < 64 → wr.cell? ⟨g, o + k * 64 + r, none⟩ = some (.int .u8 (F (k * 64 + r))) from fun r hr => by
        have := cell_below (hcell (k * 64 + r) (by omega)) hb
        rwa [← Nat.add_assoc] at this)
      have hn1 := below_new wr (.cells (u8s 64 (fun r => F (k * 64 + r))) 23)
      have hN := Blk.new wr (u8s 64 (fun r => F (k * 64 + r))) 23
      have hR1 := Lib.hid (hR.out.below hn1)
      have hb1 := below_step hb hn1
      have hro := Lib.hid (fun w => rowOf_typed (fun r => F (k * 64 + r)) w fun i _ => hFH.out _)
      clear hcell hR hb hn1
      go_wp2_with ((with_reducible refine wpl_guard ?_); first | (refine wpl_load_mid rfl 23 _ rfl g (o + k * 64) rfl 64 _ _ hcl.out uPoly sPoly ?_) | (refine wpl_alloc_arr rfl 23 rfl _ zPoly ?_) | (refine wpl_load_arr rfl 23 _ rfl _ rfl _ _ hN _ _ uPoly sPoly ?_) | (refine wpl_store_new rfl 23 _ _ rfl _ rfl rfl (u8s 64 (fun r => F (k * 64 + r))) rfl sPoly (by simp only [u8s_size]) (u8s_oneCell _ _) ?_))
      refine (hro.out _).mono ?_
      rintro e w3 ⟨r, rfl, hr, hty, hn3⟩
      obtain ⟨a1, m1, c1, rfl⟩ := hr.isSlice
      have hR3 := hR1.out.below hn3
      have hb3 := below_step hb1 hn3
      have hn4 := below_new w3 (.cells #[.slice a1 m1 c1] 48)
      have hR4 := Lib.hid (hR3.below hn4)
      have hr4 := Lib.hid (hr.below hn4)
      have ht4 := Lib.hid (hty.below hn4)
      have hb4 := below_step hb3 hn4
      have hsz := hb3.size
      clear hR1 hb1 hn3 hr hty hR3 hb3 hn4 hN hcl
      go_wp2_with (at_builtin; refine wpl_append_far rfl _ _ 57 rfl w.heap.size 48 (.slice none 0 0) 1 24 uRowsT iRowT1 rfl (by decide) (by decide) _ k _ rfl hR4.out.1.1 ⟨w3.heap.size, 0, none⟩ rfl [.slice a1 m1 c1] rfl (fun j u hj => by rw [addr_add]; exact one_new _ _ _ j u hj) (by intro u hu; rw [List.mem_singleton] at hu; subst hu; rfl) (by omega) hb4.size ?_)
      intro v' w5 hown hg hfar
      have hR5 := Lib.hid (hR4.out.snoc hr4.out ht4.out hown hg)
      have hb5 := hb4.trans (grown_belowP hg (fun q e => owned_ge hR4.out.1.1 q e) hb4.size)
      clear hown hg hfar hR4 hr4 ht4 hb4
      go_wp2_with fail
      go_roundw
      case rel => exact ⟨k + 1, _, by omega, by go_num, hR5, hb5⟩
      case measure => simp [intOf] <;> omega
    · obtain rfl : k = n := by omega
      go_wp2_with fail
      go_ret
      exact ⟨_, R, rfl, hR.out, hb⟩
end Go.Proofs.Ytionaenmjndncab
