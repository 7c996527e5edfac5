/- Walks: slices.Insert of one row into a list of rows of the call's own. -/
import Derived.Test.YtnkkkgaojhkniabI1
import Derived.Test.YtnkkkgaojhkniabPuC
set_option linter.unusedVariables false
set_option linter.unusedSimpArgs false
namespace Go.Proofs.Ytnkkkgaojhkniab
open Go.RowKit Go.Lib
theorem setCells_heap (g : Nat) : ∀ (vs : List Value) (o : Nat) (w : World) (cur : Array Value) (t : TypeId), w.heap[g]? = some (.cells cur t (0, 0)) →
    (∃ cur', (w.setCells g o vs).heap[g]? = some (.cells cur' t (0, 0)) ∧ cur'.size = cur.size ∧ (AllS cur → (∀ v ∈ vs, ∃ a n c, v = .slice a n c) → AllS cur')) ∧ w.grownBy (w.setCells g o vs) (some g)
  | [], _, w, cur, t, h => ⟨⟨cur, h, rfl, fun h _ => h⟩, World.grownBy.refl _ _⟩
  | v :: r, o, w, cur, t, h => by
    have h1 : (w.setCell ⟨g, o, none⟩ v).heap[g]? = some (.cells (cur.setIfInBounds o v) t (0, 0)) := _root_.Go.heap_setCell_same w g o cur t v h
    obtain ⟨⟨cur', h2, h3, h5⟩, h4⟩ := setCells_heap g r (o + 1) _ _ t h1
    refine ⟨⟨cur', h2, by rw [h3]; simp, fun hA hv => h5 (fun i u hu => by
      rw [Array.getElem?_setIfInBounds] at hu
      split at hu
      · split at hu
        · rw [← Option.some.inj hu]; exact hv v (by simp)
        · cases hu
      · exact hA i u hu) fun u hu => hv u (by simp [hu])⟩, grownK_trans (w' := w.setCell ⟨g, o, none⟩ v) ⟨rfl, rfl, rfl, by simp, fun k _ hk => heap_setCell_other w ⟨g, o, none⟩ k v (fun e => hk (by simp [e]))⟩ h4⟩
theorem AllS.mk {cur : Array Value} (h : ∀ v ∈ cur, ∃ a n c, v = .slice a n c) : AllS cur := fun _ v hi => h v (Array.mem_of_getElem? hi)
theorem SBlk.all {w : World} {g : Nat} {cur : Array Value} {t : TypeId} (h : SBlk w g) (hg : w.heap[g]? = some (.cells cur t (0, 0))) : AllS cur := fun i v hv => h i v (by rw [cell_of_row w g i cur _ _ hg]; exact hv)
theorem zeros_S (n : Nat) : ∀ v ∈ Builtin.zeroCells (Value.slice none 0 0).cells n, ∃ a n c, v = .slice a n c := fun v hv => by
  unfold Builtin.zeroCells at hv
  obtain ⟨i, _, rfl⟩ := Array.mem_map.1 hv
  exact ⟨none, 0, 0, by simp [Value.cells, Nat.mod_one]⟩
theorem R_sl {w : World} {n : Nat} {R : Nat → Value} {M : Nat → List Int} (hR : ∀ i, i < n → IsRow w (R i) (M i)) : ∀ v ∈ (List.range n).map R, ∃ a m c, v = .slice a m c := fun v hv => by
  obtain ⟨i, hi, rfl⟩ := List.mem_map.1 hv
  obtain ⟨a, c, e⟩ := (hR i (List.mem_range.1 hi)).sl
  exact ⟨a, _, c, e⟩
theorem owns_fin {w : World} {B g n cap : Nat} {cur : Array Value} {R : Nat → Value} (hg : w.heap[g]? = some (.cells cur 55 (0, 0))) (hs : cur.size = cap) (hn : n ≤ cap) (hm : cap ≤ maxLen) (hB : B ≤ g)
    (hc : ∀ j, j < n → w.cell? ⟨g, j, none⟩ = some (R j)) : w.ownsRow B 55 1 (.slice (some ⟨g, 0, none⟩) n cap) n ((List.range n).map R) := by
  refine ⟨by simp, .inr ⟨g, cap, cur, rfl, hB, hg, hn, hm, by omega, ?_⟩⟩
  apply List.ext_getElem?
  intro j
  by_cases hj : j < n
  · rw [List.getElem?_take, if_pos (by omega), List.getElem?_map, List.getElem?_range hj, Array.getElem?_toList]
    have h1 := hc j hj
    rw [cell_of_row w g j cur _ _ hg] at h1
    exact h1
  · rw [List.getElem?_eq_none (by simp; omega), List.getElem?_eq_none (by simp; omega)]
theorem insF_rows {w w' : World} {n a : Nat} {R : Nat → Value} {M : Nat → List Int} {r : Value} {xs : List Int} {row : Option Nat} (ha : a ≤ n) (hR : ∀ i, i < n → IsRow w (R i) (M i)) (hr : IsRow w r xs) (hg : w.grownBy w' row) (hB : ∀ g, row = some g → SBlk w g) :
    ∀ i, i < n + 1 → IsRow w' (insF a r R i) (insF a xs M i) := fun i hi => by
  rcases insF_cases r R ha hi with ⟨e1, e2⟩ | ⟨q, hq, e1, e2⟩
  · subst e2; rw [insF_at, insF_at]; exact hr.keptS hg hB
  · have e3 : insF a xs M i = M q := by
      rcases e2 with ⟨h1, rfl⟩ | ⟨h1, rfl⟩
      · exact insF_lt h1
      · rw [insF_gt h1, Nat.add_sub_cancel]
    rw [e1, e3]; exact (hR q hq).keptS hg hB
/-- What an insertion leaves. -/
def InsP (w : World) (B : Nat) (v : Value) (n a : Nat) (R : Nat → Value) (M : Nat → List Int) (r : Value) (xs : List Int) (e : Ending) (w' : World) : Prop :=
  ∃ u, e = .returned u ∧ RwsK w' B u (n + 1) (insF a r R) (insF a xs M) ∧ w.grownBy w' v.ownBlock ∧ (u.ownBlock = v.ownBlock ∨ ∀ k, u.ownBlock = some k → w.heap.size ≤ k)
theorem add_at' (b o i : Nat) : (⟨b, o, none⟩ : Addr).add i = ⟨b, o + i, none⟩ := by unfold Addr.add; split <;> simp_all
theorem oneR {r : Value} (hr : r.oneCell' = true) : ∀ v ∈ [r], v.oneCell' = true := fun v hv => by rw [List.mem_singleton.1 hv]; exact hr
theorem R_one {w : World} {n : Nat} {R : Nat → Value} {M : Nat → List Int} (hR : ∀ i, i < n → IsRow w (R i) (M i)) : ∀ v ∈ (List.range n).map R, v.oneCell' = true := fun v hv => by
  obtain ⟨i, hi, rfl⟩ := List.mem_map.1 hv
  exact (hR i (List.mem_range.1 hi)).one
theorem blk_one {w : World} {vb : Nat} {r : Value} (h : Blk w vb #[r] 55) : ∀ j v, [r][j]? = some v → w.cell? ⟨vb, 0 + j, none⟩ = some v := fun j v hj => by
  rw [Nat.zero_add, h.cell]; simpa using hj
theorem alloc_cell {w : World} {cs : Array Value} {t : TypeId} (j : Nat) : (w.drew.alloc (.cells cs t)).cell? ⟨w.heap.size, j, none⟩ = cs[j]? := (Blk.new w.drew cs t).cell j
/-- A new row: what it holds. -/
theorem grow_fin {w : World} {B n a G : Nat} {v r : Value} {R : Nat → Value} {M : Nat → List Int} {xs : List Int} {w' : World} (ha : a ≤ n) (hR : ∀ i, i < n → IsRow w (R i) (M i)) (hr : IsRow w r xs) (hB : B ≤ w.heap.size)
    (hb : Below w.heap.size w w') (hG : ∃ cur, w'.heap[w.heap.size]? = some (.cells cur 55 (0, 0)) ∧ cur.size = G ∧ AllS cur) (hn : n + 1 ≤ G) (hm : G ≤ maxLen) (hc : ∀ j, j < n + 1 → w'.cell? ⟨w.heap.size, j, none⟩ = some (insF a r R j)) :
    InsP w B v n a R M r xs (.returned (.slice (some ⟨w.heap.size, 0, none⟩) (n + 1) G)) w' := by
  obtain ⟨cur, hcur, hs, hS⟩ := hG
  refine ⟨_, rfl, ⟨owns_fin hcur hs hn hm hB hc, fun g hv => by obtain rfl : w.heap.size = g := (by simpa [Value.ownBlock] using hv); exact SBlk.of_heap hcur hS, insF_rows ha hR hr (belowK_grown hb none) (fun g e => by cases e)⟩, ⟨hb.os, hb.tape, hb.output, hb.size, fun k hk _ => hb.block k hk⟩, .inr fun k hk => ?_⟩
  obtain rfl : w.heap.size = k := by simpa [Value.ownBlock] using hk
  exact Nat.le_refl _
/-- In place. -/
theorem room_fin {w : World} {B n a g c : Nat} {r : Value} {R : Nat → Value} {M : Nat → List Int} {xs : List Int} {w' : World} (ho : w.ownsRow B 55 1 (.slice (some ⟨g, 0, none⟩) n c) n ((List.range n).map R)) (ha : a ≤ n) (hR : ∀ i, i < n → IsRow w (R i) (M i)) (hr : IsRow w r xs)
    (hg : w.grownBy w' (some g)) (hG : ∃ cur, w'.heap[g]? = some (.cells cur 55 (0, 0)) ∧ cur.size = c ∧ AllS cur) (hSB : SBlk w g) (hn : n + 1 ≤ c) (hm : c ≤ maxLen) (hc : ∀ j, j < n + 1 → w'.cell? ⟨g, j, none⟩ = some (insF a r R j)) :
    InsP w B (.slice (some ⟨g, 0, none⟩) n c) n a R M r xs (.returned (.slice (some ⟨g, 0, none⟩) (n + 1) c)) w' := by
  obtain ⟨cur, hcur, hs, hS⟩ := hG
  have hBg := (ho.lt g rfl).1
  exact ⟨_, rfl, ⟨owns_fin hcur hs hn hm hBg hc, fun k hv => by obtain rfl : g = k := (by simpa [Value.ownBlock] using hv); exact SBlk.of_heap hcur hS, insF_rows ha hR hr hg (fun k e => by cases e; exact hSB)⟩, hg, .inl rfl⟩
theorem insR_any (v : Value) (n a B vb : Nat) (R : Nat → Value) (M : Nat → List Int) (r : Value) (xs : List Int) (w : World) (h : RwsK w B v n R M) (ha : a ≤ n) (hn : n ≤ 1000) (hr : IsRow w r xs) (hV : Blk w vb #[r] 55) (hne : v.ownBlock ≠ some vb) (hB : B ≤ w.heap.size) :
    Calls Try.prog 91 #[v, .int .i64 a, .slice (some ⟨vb, 0, none⟩) 1 1] w (InsP w B v n a R M r xs) := by
  have hR := h.row
  have hro := hr.one
  have hrs : ∀ u ∈ [r], ∃ a m c, u = Value.slice a m c := fun u hu => by
    obtain ⟨a, c, e⟩ := hr.sl
    exact ⟨a, _, c, by rw [List.mem_singleton.1 hu, e]⟩
  have hRs := R_sl hR
  have hcl : ((List.range n).map R).length = n := by simp
  rcases h.own.2 with ⟨rfl, h0⟩ | ⟨g, c, cur, rfl, hBg, hg, hnc, hcm, hcs, htk⟩
  · subst h0
    obtain rfl : a = 0 := by omega
    refine (insR_end_grow none 0 0 vb 0 1 1 [] [r] w (by omega) (by omega) (by omega) (by omega) rfl rfl (fun _ => rfl) (fun _ e => by cases e) (blk_one hV) (oneR hro)).mono ?_
    rintro e w' ⟨rfl, rfl⟩
    have hge := grownCap_ge w (0 + 1) 0 55
    refine grow_fin ha hR hr hB ((Below.refl _ _).drew.alloc (Nat.le_refl _) _) ⟨_, heap_alloc_new w.drew _, ?_, AllS.mk fun u hu => by
      rcases Array.mem_append.1 hu with h1 | h1
      · exact hrs u (by simpa using h1)
      · exact zeros_S _ u h1⟩ hge (grownCap_le_maxLen w (0 + 1) 0 55 (by unfold maxLen; omega)) fun j hj => ?_
    · simp only [Array.size_append, size_zeroCells, Value.cells, List.size_toArray, List.length_append, List.length_map, List.length_range, List.length_singleton, List.length_nil, List.size_toArray]
      omega
    · obtain rfl : j = 0 := by omega
      rw [alloc_cell, insF_at, Array.getElem?_append_left (by simp)]; simp
  · have hcell : ∀ j, j < n → w.cell? ⟨g, j, none⟩ = some (R j) := fun j hj => by rw [World.ownsRow.cellAt h.own j (by omega), List.getElem?_map, List.getElem?_range hj]; rfl
    have hcs2 : ∀ j v, ((List.range n).map R)[j]? = some v → w.cell? ⟨g, 0 + j, none⟩ = some v := fun j v hj => by
      have hjn : j < n := by have := (List.getElem?_eq_some_iff.1 hj).1; simpa using this
      rw [List.getElem?_map, List.getElem?_range hjn] at hj
      rw [Nat.zero_add, hcell j hjn]; exact hj
    have hsome : ∀ j, j < c → (w.cell? ⟨g, j, none⟩).isSome = true := fun j hj => by
      rw [cell_of_row w g j cur _ _ hg, Array.getElem?_eq_getElem (by omega)]; rfl
    have hfz : ∀ j, w.frozen? ⟨g, j, none⟩ = false := fun j => World.ownsRow.frozenAt h.own j
    have hSB := h.sb g rfl
    have hAll := hSB.all hg
    have hgb : g ≠ vb := fun e => hne (by rw [← e]; rfl)
    unfold maxLen at hcm
    by_cases hae : a = n
    · subst hae
      by_cases hroom : a + 1 ≤ c
      · refine (insR_end_room g 0 a c vb 0 1 1 [r] w (by omega) hroom (by omega) rfl (fun j hj => by rw [show 0 + a + j = a + j by omega]; exact hsome _ (by omega)) (fun j hj => hfz _) (blk_one hV) (oneR hro)).mono ?_
        rintro e w' ⟨rfl, rfl⟩
        rw [Nat.zero_add]
        obtain ⟨⟨cur', h1, h2, h9⟩, h3⟩ := setCells_heap g [r] a w cur _ hg
        refine room_fin h.own ha hR hr h3 ⟨cur', h1, by omega, h9 hAll hrs⟩ hSB hroom (by unfold maxLen; omega) fun j hj => ?_
        by_cases e : j < a
        · rw [World.cell?_setCells_out g _ _ _ _ (fun _ _ => Or.inl e), insF_lt e]; exact hcell j e
        · obtain rfl : j = a := by omega
          have := World.cell?_setCells_in g [r] j w (fun q hq => by have : q = 0 := (by simpa using hq); subst this; exact hsome _ (by omega)) 0 (by simp)
          rw [insF_at]; simpa using this
      · refine (insR_end_grow (some ⟨g, 0, none⟩) a c vb 0 1 1 ((List.range a).map R) [r] w (by omega) hnc (by omega) (by omega) hcl rfl (fun e => by cases e) (fun b e => by cases e; intro j v hj; rw [add_at']; exact hcs2 j v hj) (blk_one hV) (oneR hro)).mono ?_
        rintro e w' ⟨rfl, rfl⟩
        have hge := grownCap_ge w (a + 1) c 55
        refine grow_fin ha hR hr hB ((Below.refl _ _).drew.alloc (Nat.le_refl _) _) ⟨_, heap_alloc_new w.drew _, ?_, AllS.mk fun u hu => by
          rcases Array.mem_append.1 hu with h1 | h1
          · rcases List.mem_append.1 (by simpa using h1 : u ∈ (List.range a).map R ++ [r]) with h2 | h2
            · exact hRs u h2
            · exact hrs u h2
          · exact zeros_S _ u h1⟩ hge (grownCap_le_maxLen w (a + 1) c 55 (by unfold maxLen; omega)) fun j hj => ?_
        · simp only [Array.size_append, size_zeroCells, Value.cells, List.size_toArray, List.length_append, List.length_map, List.length_range, List.length_singleton]
          omega
        · rw [alloc_cell, Array.getElem?_append_left (by simp; omega), List.getElem?_toArray]
          by_cases e : j < a
          · rw [List.getElem?_append_left (by simpa using e), List.getElem?_map, List.getElem?_range e, insF_lt e]; rfl
          · obtain rfl : j = a := by omega
            rw [List.getElem?_append_right (by simp), insF_at]; simp
    · have hlt : a < n := by omega
      have hdl : ((List.range n).map R).drop a = (List.range (n - a)).map fun q => R (a + q) := by
        apply List.ext_getElem?
        intro q
        by_cases hq : q < n - a
        · rw [List.getElem?_drop, List.getElem?_map, List.getElem?_range (by omega), List.getElem?_map, List.getElem?_range hq]; rfl
        · rw [List.getElem?_eq_none (by simp; omega), List.getElem?_eq_none (by simp; omega)]
      have hdg : ∀ q, q < n - a → ∀ hh, (((List.range n).map R).drop a)[q]'hh = R (a + q) := fun q hq hh => by simp
      by_cases hroom : n + 1 ≤ c
      · refine (insR_shift g 0 n c a vb 0 1 1 ((List.range n).map R) [r] w hlt (by omega) hroom (by omega) (fun e => hgb e.symm) hcl rfl hcs2 (fun j hj => by rw [Nat.zero_add]; exact hsome _ (by omega)) (fun j _ => hfz _) (blk_one hV) (R_one hR) (oneR hro) 55 55 1 c (by
            unfold World.shape?; rw [hV]; rfl) (by unfold World.shape?; rw [hg]; simp [hcs]) (by omega) (hV.free 0) (hV.free 1)).mono ?_
        rintro e w' ⟨rfl, rfl⟩
        simp only [Nat.zero_add]
        obtain ⟨⟨cur1, h1, h2, h7⟩, h3⟩ := setCells_heap g (((List.range n).map R).drop a) (a + 1) w.drew cur _ hg
        obtain ⟨⟨cur2, h4, h5, h8⟩, h6⟩ := setCells_heap g [r] a _ cur1 _ h1
        have hI1 : ∀ q, q < (((List.range n).map R).drop a).length → (w.drew.cell? ⟨g, a + 1 + q, none⟩).isSome = true := fun q hq => hsome _ (by rw [List.length_drop, hcl] at hq; omega)
        refine room_fin h.own ha hR hr (grownK_trans (grownK_trans (w' := w.drew) ⟨rfl, rfl, rfl, Nat.le_refl _, fun _ _ _ => rfl⟩ h3) h6) ⟨cur2, h4, by omega, h8 (h7 hAll fun u hu => hRs u (List.mem_of_mem_drop hu)) hrs⟩ hSB hroom (by unfold maxLen; omega) fun j hj => ?_
        by_cases e : j < a
        · rw [World.cell?_setCells_out g _ _ _ _ (fun _ _ => Or.inl e), World.cell?_setCells_out g _ _ _ _ (fun _ _ => Or.inl (by show j < a + 1; omega)), insF_lt e]; exact hcell j (by omega)
        · by_cases e2 : j = a
          · subst e2
            have := World.cell?_setCells_in g [r] j (w.drew.setCells g (j + 1) (((List.range n).map R).drop j)) (fun q hq => by
              have : q = 0 := by simpa using hq
              subst this
              exact isSome_setCells g _ _ _ hI1 _ (hsome _ (by omega))) 0 (by simp)
            rw [insF_at]; simpa using this
          · rw [World.cell?_setCells_out g _ _ _ _ (fun _ _ => Or.inr (by show a + 1 ≤ j; omega))]
            have hq : j - (a + 1) < (((List.range n).map R).drop a).length := by rw [List.length_drop, hcl]; omega
            have := World.cell?_setCells_in g (((List.range n).map R).drop a) (a + 1) w.drew hI1 (j - (a + 1)) hq
            rw [show a + 1 + (j - (a + 1)) = j by omega, hdg _ (by omega)] at this
            rw [this, insF_gt (by omega), show a + (j - (a + 1)) = j - 1 by omega]
      · refine (insR_grow g 0 n c a vb 0 1 1 ((List.range n).map R) [r] w hlt (by omega) hnc (by omega) (by omega) hcl rfl hcs2 (blk_one hV) (R_one hR) (oneR hro)).mono ?_
        rintro e w' ⟨rfl, rfl⟩
        have hge := grownCap_ge w (n + 1) c 55
        have hgm := grownCap_le_maxLen w (n + 1) c 55 (by unfold maxLen; omega)
        obtain ⟨G, hG⟩ : ∃ G, grownCap w (n + 1) c 55 = G := ⟨_, rfl⟩
        rw [hG] at hge hgm ⊢
        obtain ⟨ROW, hROW⟩ : ∃ ROW : Array Value, (((List.range n).map R).take a).toArray ++ Builtin.zeroCells (Value.slice none 0 0).cells (n + 1 - a) ++ Builtin.zeroCells (Value.slice none 0 0).cells (G - (n + 1)) = ROW := ⟨_, rfl⟩
        have hRsz : ROW.size = G := by rw [← hROW]; simp [Builtin.zeroCells, Value.cells]; omega
        have hRa : ∀ j, j < a → ROW[j]? = some (R j) := fun j hj => by
          rw [← hROW, Array.getElem?_append_left (by simp [Builtin.zeroCells, Value.cells]; omega), Array.getElem?_append_left (by simp; omega), List.getElem?_toArray, List.getElem?_take, if_pos hj, List.getElem?_map, List.getElem?_range (by omega)]; rfl
        have hRA : AllS ROW := AllS.mk fun u hu => by
          rw [← hROW] at hu
          rcases Array.mem_append.1 hu with h1 | h1
          · rcases Array.mem_append.1 h1 with h2 | h2
            · exact hRs u (List.mem_of_mem_take (by simpa using h2))
            · exact zeros_S _ u h2
          · exact zeros_S _ u h1
        rw [hROW]
        have h0 : ((w.alloc (.cells ROW 55)).drew).heap[w.heap.size]? = some (.cells ROW 55 (0, 0)) := heap_alloc_new w _
        obtain ⟨⟨cur1, h1, h2, h7⟩, h3⟩ := setCells_heap w.heap.size [r] a (w.alloc (.cells ROW 55)).drew ROW _ h0
        obtain ⟨⟨cur2, h4, h5, h8⟩, h6⟩ := setCells_heap w.heap.size (((List.range n).map R).drop a) (a + 1) ((w.alloc (.cells ROW 55)).drew.setCells w.heap.size a [r]).drew cur1 _ h1
        have hs0 : ∀ j, j < G → (((w.alloc (.cells ROW 55)).drew).cell? ⟨w.heap.size, j, none⟩).isSome = true := fun j hj => by
          show ((w.alloc (.cells ROW 55)).cell? ⟨w.heap.size, j, none⟩).isSome = true
          rw [(Blk.new w ROW 55).cell j, Array.getElem?_eq_getElem (by omega)]; rfl
        have hI0 : ∀ q, q < [r].length → (((w.alloc (.cells ROW 55)).drew).cell? ⟨w.heap.size, a + q, none⟩).isSome = true := fun q hq => hs0 _ (by simp at hq; omega)
        have hI1 : ∀ q, q < (((List.range n).map R).drop a).length → ((((w.alloc (.cells ROW 55)).drew.setCells w.heap.size a [r]).drew).cell? ⟨w.heap.size, a + 1 + q, none⟩).isSome = true := fun q hq => by
          rw [List.length_drop, hcl] at hq
          exact isSome_setCells w.heap.size [r] a _ hI0 _ (hs0 _ (by omega))
        have hb0 : Below w.heap.size w (w.alloc (.cells ROW 55)).drew := (below_new w _).drew
        have hbf : Below w.heap.size w (((w.alloc (.cells ROW 55)).drew.setCells w.heap.size a [r]).drew.setCells w.heap.size (a + 1) (((List.range n).map R).drop a)) :=
          (((hb0.grown h3 hb0.size (fun k e => by cases e; exact Nat.le_refl _)).drew).grown h6 (by have := hb0.size; exact Nat.le_trans this h3.size) (fun k e => by cases e; exact Nat.le_refl _))
        refine grow_fin ha hR hr hB hbf ⟨cur2, h4, by omega, h8 (h7 hRA hrs) fun u hu => hRs u (List.mem_of_mem_drop hu)⟩ hge hgm fun j hj => ?_
        by_cases e : j < a
        · rw [World.cell?_setCells_out _ _ _ _ _ (fun _ _ => Or.inl (by show j < a + 1; omega))]
          show (((w.alloc (.cells ROW 55)).drew.setCells w.heap.size a [r])).cell? ⟨w.heap.size, j, none⟩ = _
          rw [World.cell?_setCells_out _ _ _ _ _ (fun _ _ => Or.inl e), insF_lt e]
          show (w.alloc (.cells ROW 55)).cell? ⟨w.heap.size, j, none⟩ = _
          rw [(Blk.new w ROW 55).cell j]; exact hRa j e
        · by_cases e2 : j = a
          · subst e2
            rw [World.cell?_setCells_out _ _ _ _ _ (fun _ _ => Or.inl (by show j < j + 1; omega))]
            show (((w.alloc (.cells ROW 55)).drew.setCells w.heap.size j [r])).cell? ⟨w.heap.size, j, none⟩ = _
            have := World.cell?_setCells_in w.heap.size [r] j _ hI0 0 (by simp)
            rw [insF_at]; simpa using this
          · have hq : j - (a + 1) < (((List.range n).map R).drop a).length := by rw [List.length_drop, hcl]; omega
            have := World.cell?_setCells_in w.heap.size (((List.range n).map R).drop a) (a + 1) _ hI1 (j - (a + 1)) hq
            rw [show a + 1 + (j - (a + 1)) = j by omega, hdg _ (by omega)] at this
            rw [this, insF_gt (by omega), show a + (j - (a + 1)) = j - 1 by omega]
end Go.Proofs.Ytnkkkgaojhkniab
