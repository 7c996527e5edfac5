/- Walks: division of rows. -/
import Derived.Test.YthkkicanockhgaaA2
import Derived.Test.YthkkicanockhgaaGrow2
namespace Go.Proofs.Ythkkicanockhgaa
open Go.RowKit

theorem sInt : (Try.prog.info? 2).map (·.size) = some 1 := by kernel_rfl

set_option maxHeartbeats 400000 in
theorem cloneRow_any (v : Value) (xs : List Int) (w : World) (h : IsRow w v xs) (hL : xs.length ≤ 1000) :
    Calls Try.prog 93 #[v] w fun e w' => ∃ v', e = .returned v' ∧ w'.ownsRow w.heap.size 2 1 v' xs.length ((List.range xs.length).map fun j => .int .i64 (cf xs j)) ∧ Below w.heap.size w w' := by
  obtain ⟨oa, cap, rfl, hle, hcap, hcell⟩ := h
  have hcellH := Lib.hid hcell
  have hcapH := Lib.hid hcap
  clear hcell hcap
  cases oa with
  | none =>
    have h0 : xs.length = 0 := by
      refine Classical.byContradiction fun hn => ?_
      obtain ⟨b, off, hh, _⟩ := hcellH.out (by omega)
      cases hh
    rw [h0] at hle ⊢
    go_enter Try.func93, Try.ntmps93
    go_wp2_with (refine wpl_eql_nil rfl 49 _ 2 _ _ rfl none 0 cap rfl rfl Try.underlying49 ?_)
    go_ret
    exact ⟨_, rfl, World.ownsRow_nil _ _ _ _, Below.refl _ _⟩
  | some ad =>
    have hc : ∀ j u, ((List.range xs.length).map fun j => Value.int .i64 (cf xs j))[j]? = some u → (w.alloc (.cells #[] 2)).cell? (ad.add j) = some u := by
      intro j u hj
      rw [List.getElem?_map] at hj
      by_cases hjl : j < xs.length
      · rw [List.getElem?_range hjl] at hj
        obtain ⟨b, off, hh, hc⟩ := hcellH.out (by omega)
        cases hh
        have := hc j hjl
        have hblt := block_lt_of_cell this
        have e : (⟨b, off, none⟩ : Addr).add j = ⟨b, off + j, none⟩ := by simp [Addr.add]
        rw [e, (below_new w _).cell hblt, this]
        simpa using hj
      · rw [List.getElem?_eq_none (by simpa using hjl)] at hj; cases hj
    have hcH := Lib.hid hc
    have hown := Lib.hid (owns_void w 2)
    clear hc hcellH
    go_enter Try.func93, Try.ntmps93
    go_wp2_with (first | (refine wpl_eql_nil rfl 49 _ 2 _ _ rfl (some ad) xs.length cap rfl rfl Try.underlying49 ?_) | (refine wpl_buildSlice_void rfl 49 2 rfl Try.underlying49 sInt ?_) |
      (at_builtin; refine wpl_append_more rfl _ _ 49 rfl w.heap.size 2 (.int .i64 0) 1 8 Try.underlying49 iInt rfl (by decide) (by decide) _ 0 [] rfl hown.out ad xs.length cap rfl _ (by simp) hcH.out (by intro u hu; rw [List.mem_map] at hu; obtain ⟨j, _, rfl⟩ := hu; rfl) (by omega) (by simp) ?_))
    intro v' w2 hown2 hb2
    have hownH := Lib.hid hown2
    have hb3 := (below_new w (.cells #[] 2)).trans hb2
    clear hown2 hb2
    go_wp2_with fail
    go_ret
    exact ⟨_, rfl, hownH.out, hb3⟩

/-- A block of the call's own that reads as a row, and may be written. -/
def WRow (w : World) (g : Nat) (n : Nat) (R : Nat → Int) : Prop := ∃ cur, Blk w g cur 2 ∧ ∀ i, i < n → cur[i]? = some (.int .i64 (R i))
theorem WRow.cell {w : World} {g n : Nat} {R : Nat → Int} (h : WRow w g n R) (i : Nat) (hi : i < n) : w.cell? ⟨g, i, none⟩ = some (.int .i64 (R i)) := by
  obtain ⟨cur, hb, hc⟩ := h
  rw [hb.cell, hc i hi]
theorem WRow.free {w : World} {g n : Nat} {R : Nat → Int} (h : WRow w g n R) (i : Nat) : w.frozen? ⟨g, i, none⟩ = false := by
  obtain ⟨cur, hb, _⟩ := h
  exact hb.free i
theorem WRow.lt {w : World} {g n : Nat} {R : Nat → Int} (h : WRow w g n R) : g < w.heap.size := by
  obtain ⟨cur, hb, _⟩ := h
  exact hb.lt
theorem WRow.below {B : Nat} {w w' : World} {g n : Nat} {R : Nat → Int} (h : WRow w g n R) (hb : Below B w w') (hg : g < B) : WRow w' g n R := by
  obtain ⟨cur, h1, h2⟩ := h
  exact ⟨cur, h1.below hb hg, h2⟩
theorem WRow.set {w : World} {g n : Nat} {R : Nat → Int} (h : WRow w g n R) (i : Nat) (x : Int) : WRow (w.setCell ⟨g, i, none⟩ (.int .i64 x)) g n (fun j => if j = i then x else R j) := by
  obtain ⟨cur, hb, hc⟩ := h
  refine ⟨_, hb.set i _, fun j hj => ?_⟩
  have hs : j < cur.size := by
    have := hc j hj
    exact (Array.getElem?_eq_some_iff.1 this).1
  rw [Array.getElem?_setIfInBounds]
  by_cases e : i = j
  · subst e; rw [if_pos rfl, if_pos hs]; simp
  · rw [if_neg e, hc j hj]; simp [Ne.symm e]
theorem WRow.set_other {w : World} {g n : Nat} {R : Nat → Int} (h : WRow w g n R) (a : Addr) (v : Value) (hne : g ≠ a.block) : WRow (w.setCell a v) g n R := by
  obtain ⟨cur, hb, hc⟩ := h
  exact ⟨cur, hb.set_other a v hne, hc⟩
theorem WRow.ext {w : World} {g n : Nat} {R R' : Nat → Int} (h : WRow w g n R) (he : ∀ i, i < n → R i = R' i) : WRow w g n R' := by
  obtain ⟨cur, hb, hc⟩ := h
  exact ⟨cur, hb, fun i hi => by rw [hc i hi, he i hi]⟩
theorem WRow.row {w : World} {g n cap : Nat} {R : Nat → Int} (h : WRow w g n R) (hn : n ≤ cap) (hc : cap ≤ maxLen) : IsRow w (.slice (some ⟨g, 0, none⟩) n cap) ((List.range n).map R) := by
  have hlen : ((List.range n).map R).length = n := by rw [List.length_map, List.length_range]
  refine ⟨some ⟨g, 0, none⟩, cap, by rw [hlen], by omega, hc, fun _ => ⟨_, 0, rfl, fun i hi => ?_⟩⟩
  rw [hlen] at hi
  rw [Nat.zero_add, h.cell i hi, cf_map_range, if_pos hi]
/-- What the call has cloned. -/
theorem WRow_owned {w : World} {base n : Nat} {v : Value} {f : Nat → Int} (h : w.ownsRow base 2 1 v n ((List.range n).map fun j => .int .i64 (f j))) (hn : 0 < n) :
    ∃ g cap, v = .slice (some ⟨g, 0, none⟩) n cap ∧ base ≤ g ∧ n ≤ cap ∧ cap ≤ maxLen ∧ WRow w g n f := by
  rcases h with ⟨_, ⟨rfl, rfl⟩ | ⟨g, cap, cur, rfl, hg, hb, h1, h2, h3, h4⟩⟩
  · omega
  · refine ⟨g, cap, rfl, hg, h1, h2, cur, hb, fun i hi => ?_⟩
    have h5 : (cur.toList.take (n * 1))[i]? = some (.int .i64 (f i)) := by
      rw [h4, List.getElem?_map, List.getElem?_range hi]; rfl
    rw [List.getElem?_take, if_pos (by omega)] at h5
    simpa using h5
end Go.Proofs.Ythkkicanockhgaa
