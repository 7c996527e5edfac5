/- Walks: lists of polynomials told, compared, marked and held. -/
import Derived.Test.YtnkkkgaojhkniabSq2
set_option linter.unusedVariables false
set_option linter.unusedSimpArgs false
namespace Go.Proofs.Ytnkkkgaojhkniab
open Go.RowKit
theorem owns_below' {B : Nat} {e : TypeId} {k : Nat} {v : Value} {n : Nat} {xs : List Value} {w w' : World} (h : w.ownsRow B e k v n xs) (hb : Below w.heap.size w w') : w'.ownsRow B e k v n xs := by
  refine ⟨h.1, ?_⟩
  rcases h.2 with h1 | ⟨g, cap, cur, h1, h2, h3, h4⟩
  · exact .inl h1
  · exact .inr ⟨g, cap, cur, h1, h2, by rw [hb.block g (Array.getElem?_eq_some_iff.1 h3).1]; exact h3, h4⟩
theorem owns_mono' {B B' : Nat} {e : TypeId} {k : Nat} {v : Value} {n : Nat} {xs : List Value} {w : World} (h : w.ownsRow B e k v n xs) (hb : B' ≤ B) : w.ownsRow B' e k v n xs := by
  refine ⟨h.1, ?_⟩
  rcases h.2 with h1 | ⟨g, cap, cur, h1, h2, h3⟩
  · exact .inl h1
  · exact .inr ⟨g, cap, cur, h1, Nat.le_trans hb h2, h3⟩
/-- n rows that lie as cells of a slice (capacity as it may be). -/
def RwC (w : World) (v : Value) (n : Nat) (R : Nat → Value) (M : Nat → List Int) : Prop :=
  (∃ oa c, v = .slice oa n c ∧ (0 < n → ∃ g, oa = some ⟨g, 0, none⟩ ∧ ∀ i, i < n → w.cell? ⟨g, i, none⟩ = some (R i))) ∧ ∀ i, i < n → IsRow w (R i) (M i)
theorem RwC.below {w w' : World} {v : Value} {n : Nat} {R : Nat → Value} {M : Nat → List Int} (h : RwC w v n R M) (hb : Below w.heap.size w w') : RwC w' v n R M := by
  obtain ⟨⟨oa, c, h1, h2⟩, h3⟩ := h
  refine ⟨⟨oa, c, h1, fun h0 => ?_⟩, fun i hi => (h3 i hi).below hb⟩
  obtain ⟨g, e, hg⟩ := h2 h0
  exact ⟨g, e, fun i hi => cell_below (hg i hi) hb⟩
/-- n polynomials that lie in a block of their own. -/
def pcell (M : Nat → List Int) (j : Nat) : Value := .int .u8 (cf (M (j / 64)) (j % 64))
def PlS (w : World) (B : Nat) (v : Value) (n : Nat) (M : Nat → List Int) : Prop := w.ownsRow B 25 64 v n ((List.range (n * 64)).map (pcell M))
theorem pcells_succ (M : Nat → List Int) (n : Nat) : (List.range ((n + 1) * 64)).map (pcell M) = (List.range (n * 64)).map (pcell M) ++ (u8s 64 (cf (M n))).toList := by
  rw [Nat.add_mul, Nat.one_mul, List.range_add, List.map_append, List.map_map]
  congr 1
  unfold u8s
  rw [arr_list]
  apply List.map_congr_left
  intro j hj
  have := List.mem_range.1 hj
  show pcell M (n * 64 + j) = _
  unfold pcell
  rw [show (n * 64 + j) / 64 = n by omega, show (n * 64 + j) % 64 = j by omega]
set_option maxRecDepth 20000 in
set_option maxHeartbeats 1000000 in
theorem polys_any (v : Value) (n : Nat) (R : Nat → Value) (M : Nat → List Int) (w : World) (hn : n ≤ 1000000)
    (hC : RwC w v n R M) (hx : ∀ k, k < n → (∀ i, 0 ≤ cf (M k) i ∧ cf (M k) i ≤ 255) ∧ (M k).length ≤ 64) :
    Calls Try.prog 41 #[v] w fun e w' => ∃ v', e = .returned v' ∧ PlS w' w.heap.size v' n M ∧ Below w.heap.size w w' := by
  obtain ⟨⟨oa, cO, rfl, hO⟩, hR⟩ := hC
  have hOH := Lib.hid hO
  have hRH := Lib.hid hR
  have hxH := Lib.hid hx
  clear hO hR hx
  go_enter Try.func41, Try.ntmps41
  go_wp2_with fail
  go_loopw [3, 8] (fun u i wr => ∃ k : Nat, k ≤ n ∧ i = .int .i64 k ∧ Hid (PlS wr w.heap.size u k M) ∧ Below w.heap.size w wr) (fun _ i _ => n - (intOf i).toNat)
  case atStart => exact ⟨0, by omega, rfl, Lib.hid (World.ownsRow_nil _ _ _ _), Below.refl _ _⟩
  case round =>
    obtain ⟨k, hk, rfl, hP, hb⟩ := hrel
    by_cases hlt : k < n
    · obtain ⟨g, rfl, hB⟩ := hOH.out (by omega)
      have c0 : wr.cell? ⟨g, k, none⟩ = some (R k) := cell_below (hB k hlt) hb
      have hRk := (hRH.out k hlt).below hb
      have H1 := Lib.hid (poly_any (R k) (M k) wr hRk (hxH.out k hlt).1 (hxH.out k hlt).2)
      obtain ⟨a1, m1, c1, hsl⟩ := hRk.isSlice
      rw [hsl] at c0 H1
      clear hRk hB hsl
      go_wp2_with fail
      refine H1.out.mono ?_
      rintro e u1 ⟨rfl, hb1⟩
      have hP1 := Lib.hid (owns_below' hP.out hb1)
      have hb2 := below_step hb hb1
      clear hP hb hb1 c0
      have hP2 := Lib.hid (hP1.out.alloc (.cells (u8s (1 * 64) (polysF [cf (M k)])) 25))
      have hnew : ∀ j u, ((u8s 64 (cf (M k))).toList)[j]? = some u → (u1.alloc (.cells (u8s (1 * 64) (polysF [cf (M k)])) 25)).cell? ⟨u1.heap.size, j, none⟩ = some u := fun j u hj => by
        rw [(Blk.new u1 (u8s (1 * 64) (polysF [cf (M k)])) 25).cell]
        rw [Array.getElem?_toList] at hj
        by_cases h : j < 64
        · rw [u8s_get _ h] at hj
          rw [u8s_get _ (by omega), ← hj]
          unfold polysF
          rw [show j / 64 = 0 by omega, show j % 64 = j by omega]; rfl
        · rw [Array.getElem?_eq_none (by rw [u8s_size]; omega)] at hj; cases hj
      have hnewH := Lib.hid hnew
      have h1c := Lib.hid (fun u (hu : u ∈ (u8s 64 (cf (M k))).toList) => (Array.all_eq_true_iff_forall_mem.1 (u8s_oneCell 64 (cf (M k)))) u (by simpa using hu))
      have hsz := hb2.size
      have hb3 := hb2.alloc hsz (.cells (u8s (1 * 64) (polysF [cf (M k)])) 25)
      clear hnew hP1
      go_wp2_with (first | (refine wpl_buildSlice_polys rfl 38 25 1 _ rfl Try.underlying38 sPoly zPoly [cf (M k)] rfl (by decide) (by decide) rfl ?_) | (at_builtin; refine wpl_append_one rfl _ _ 38 rfl w.heap.size 25 _ 64 64 Try.underlying38 iPoly (by simp [Value.cells, u8s_size]) (by decide) (by decide) _ k _ rfl hP2.out u1.heap.size rfl (u8s 64 (cf (M k))).toList (by rw [Array.length_toList, u8s_size]) hnewH.out h1c.out (by omega) (by simp only [size_alloc]; omega) ?_))
      intro v' w2 hown3 hbb2
      have hP3 : PlS w2 w.heap.size v' (k + 1) M := by unfold PlS; rw [pcells_succ]; exact hown3
      have hP3H := Lib.hid hP3
      have hb4 := hb3.trans hbb2
      clear hown3 hbb2 hP3
      go_wp2_with fail
      go_roundw
      case rel => exact ⟨k + 1, by omega, by go_num, hP3H, hb4⟩
      case measure => simp [intOf] <;> omega
    · obtain rfl : k = n := by omega
      go_wp2_with fail
      go_ret
      exact ⟨_, rfl, hP.out, hb⟩
theorem PlS.below {w w' : World} {B : Nat} {v : Value} {n : Nat} {M : Nat → List Int} (h : PlS w B v n M) (hb : Below w.heap.size w w') : PlS w' B v n M := owns_below' h hb
theorem PlS.slice {w : World} {B : Nat} {v : Value} {n : Nat} {M : Nat → List Int} (h : PlS w B v n M) : ∃ oa cap, v = .slice oa n cap := by
  rcases h.2 with ⟨rfl, rfl⟩ | ⟨g', cap', cur, h1, _⟩
  · exact ⟨none, 0, rfl⟩
  · exact ⟨_, _, h1⟩
theorem PlS.form {w : World} {B : Nat} {v : Value} {n : Nat} {M : Nat → List Int} (h : PlS w B v n M) (hn : 0 < n) : ∃ g cap, v = .slice (some ⟨g, 0, none⟩) n cap ∧ B ≤ g := owns_form h hn
theorem PlS.cells {w : World} {B g n cap : Nat} {M : Nat → List Int} (h : PlS w B (.slice (some ⟨g, 0, none⟩) n cap) n M) (i : Nat) (hi : i < n) : ∀ j, j < 64 → w.cell? ⟨g, i * 64 + j, none⟩ = some (.int .u8 (cf (M i) j)) := fun j hj => by
  have h1 := World.ownsRow.cellAt h (i * 64 + j) (by omega)
  rw [h1, List.getElem?_map, List.getElem?_range (by omega)]
  show some (pcell M (i * 64 + j)) = _
  unfold pcell
  rw [show (i * 64 + j) / 64 = i by omega, show (i * 64 + j) % 64 = j by omega]
set_option maxRecDepth 20000 in
set_option maxHeartbeats 1000000 in
theorem eqPolyS_same (va vb : Value) (n B1 B2 : Nat) (M : Nat → List Int) (w : World) (ha : PlS w B1 va n M) (hbq : PlS w B2 vb n M) (hn : n ≤ 10000000) :
    Calls Try.prog 21 #[va, vb] w fun e w' => e = .returned (.bool true) ∧ Below w.heap.size w w' := by
  by_cases h0 : n = 0
  · subst h0
    obtain ⟨oa, ca, rfl⟩ := ha.slice
    obtain ⟨ob, cb, rfl⟩ := hbq.slice
    clear ha hbq
    go_enter Try.func21, Try.ntmps21
    go_wp2_with fail
    go_loopw [5] (fun i wr => i = .int .i64 0 ∧ Below w.heap.size w wr) (fun _ _ => 0)
    case atStart => exact ⟨rfl, Below.refl _ _⟩
    case round =>
      obtain ⟨rfl, hb⟩ := hrel
      go_wp2_with fail
      go_ret
      exact ⟨rfl, hb⟩
  · obtain ⟨gA, cA, rfl, _⟩ := ha.form (by omega)
    obtain ⟨gB, cB, rfl, _⟩ := hbq.form (by omega)
    have hA := Lib.hid ha
    have hBq := Lib.hid hbq
    clear ha hbq
    go_enter Try.func21, Try.ntmps21
    go_wp2_with fail
    go_loopw [5] (fun i wr => ∃ k : Nat, k ≤ n ∧ i = .int .i64 (k : Int) ∧ Below w.heap.size w wr) (fun i _ => n - (intOf i).toNat)
    case atStart => exact ⟨0, by omega, rfl, Below.refl _ _⟩
    case round =>
      obtain ⟨k, hk, rfl, hb⟩ := hrel
      by_cases hlt : k < n
      · go_wp2_with fail
        go_upto_region 6 with (fail)
        refine gen_guard (w := _) (by kernel_rfl) (by kernel_rfl) (by kernel_rfl)
            (fun i => ([fun zv _ => zv = .slice (some ⟨gA, 0, none⟩) n cA, fun zv _ => zv = .int .i64 ((k : Nat) : Int), fun zv _ => zv = .pointer (some ⟨gA, k * 64, none⟩), fun zv _ => zv = .agg (u8s 64 (cf (M k))), fun zv _ => zv = .slice (some ⟨gB, 0, none⟩) n cB, fun zv _ => zv = .int .i64 ((k : Nat) : Int), fun zv _ => zv = .pointer (some ⟨gB, k * 64, none⟩), fun zv _ => zv = .agg (u8s 64 (cf (M k))), fun zv _ => zv = .bool true, fun zv _ => zv = .bool false] : List (Value → World → Prop)).getD i (fun _ _ => True))
            (fun w' => True) trivial (fun w1 w2 h hb => trivial) ?_ ?_ ?_
        · intro i v w1 w2 h hb
          rcases i with _|_|_|_|_|_|_|_|_|_|i
          · exact h
          · exact h
          · exact h
          · exact h
          · exact h
          · exact h
          · exact h
          · exact h
          · exact h
          · exact h
          · exact h
        · intro i o ho a w2 hBl hSx hrd hpar
          rcases i with _|_|_|_|_|_|_|_|_|_|i
          · obtain rfl := Option.some.inj ho
            refine .inl ⟨rfl, ?_⟩
            have e0 : a.eval (.tmp 0) = .slice (some ⟨gA, 0, none⟩) n cA := hpar 0 _ (by kernel_rfl) (by kernel_rfl)
            exact wpv_of (wp_move _ _ rfl e0) (fun _ _ => rfl)
          · obtain rfl := Option.some.inj ho
            refine .inl ⟨rfl, ?_⟩
            have e5 : a.eval (.tmp 5) = .int .i64 ((k : Nat) : Int) := hpar 5 _ (by kernel_rfl) (by kernel_rfl)
            exact wpv_of (wp_move _ _ rfl e5) (fun _ _ => rfl)
          · obtain rfl := Option.some.inj ho
            refine .inl ⟨rfl, ?_⟩
            have e17 : a.eval (.tmp 17) = .slice (some ⟨gA, 0, none⟩) n cA := hrd 0 _ 17 rfl rfl (by kernel_rfl) (by kernel_rfl)
            have e18 : a.eval (.tmp 18) = .int .i64 ((k : Nat) : Int) := hrd 1 _ 18 rfl rfl (by kernel_rfl) (by kernel_rfl)
            exact wpv_of (wp_index_bs 38 25 64 _ _ rfl uTlnT sPoly (by decide) gA n cA k .i64 e17 e18 hlt) (fun _ _ => rfl)
          · obtain rfl := Option.some.inj ho
            refine .inl ⟨rfl, ?_⟩
            have e19 : a.eval (.tmp 19) = .pointer (some ⟨gA, k * 64, none⟩) := hrd 2 _ 19 rfl rfl (by kernel_rfl) (by kernel_rfl)
            exact wpv_of (wp_load_bs 25 _ rfl 64 gA (k * 64) e19 _ (((hA.out.below hb).below hBl).cells k hlt) _ uPoly sPoly) (fun _ _ => rfl)
          · obtain rfl := Option.some.inj ho
            refine .inl ⟨rfl, ?_⟩
            have e1 : a.eval (.tmp 1) = .slice (some ⟨gB, 0, none⟩) n cB := hpar 1 _ (by kernel_rfl) (by kernel_rfl)
            exact wpv_of (wp_move _ _ rfl e1) (fun _ _ => rfl)
          · obtain rfl := Option.some.inj ho
            refine .inl ⟨rfl, ?_⟩
            have e5 : a.eval (.tmp 5) = .int .i64 ((k : Nat) : Int) := hpar 5 _ (by kernel_rfl) (by kernel_rfl)
            exact wpv_of (wp_move _ _ rfl e5) (fun _ _ => rfl)
          · obtain rfl := Option.some.inj ho
            refine .inl ⟨rfl, ?_⟩
            have e21 : a.eval (.tmp 21) = .slice (some ⟨gB, 0, none⟩) n cB := hrd 4 _ 21 rfl rfl (by kernel_rfl) (by kernel_rfl)
            have e22 : a.eval (.tmp 22) = .int .i64 ((k : Nat) : Int) := hrd 5 _ 22 rfl rfl (by kernel_rfl) (by kernel_rfl)
            exact wpv_of (wp_index_bs 38 25 64 _ _ rfl uTlnT sPoly (by decide) gB n cB k .i64 e21 e22 hlt) (fun _ _ => rfl)
          · obtain rfl := Option.some.inj ho
            refine .inl ⟨rfl, ?_⟩
            have e23 : a.eval (.tmp 23) = .pointer (some ⟨gB, k * 64, none⟩) := hrd 6 _ 23 rfl rfl (by kernel_rfl) (by kernel_rfl)
            exact wpv_of (wp_load_bs 25 _ rfl 64 gB (k * 64) e23 _ (((hBq.out.below hb).below hBl).cells k hlt) _ uPoly sPoly) (fun _ _ => rfl)
          · obtain rfl := Option.some.inj ho
            refine .inl ⟨rfl, ?_⟩
            have e20 : a.eval (.tmp 20) = .agg (u8s 64 (cf (M k))) := hrd 3 _ 20 rfl rfl (by kernel_rfl) (by kernel_rfl)
            have e24 : a.eval (.tmp 24) = .agg (u8s 64 (cf (M k))) := hrd 7 _ 24 rfl rfl (by kernel_rfl) (by kernel_rfl)
            exact wpv_call 12 [.tmp 20, .tmp 24] _ rfl [.agg (u8s 64 (cf (M k))), .agg (u8s 64 (cf (M k)))] (by simp only [List.map_cons, List.map_nil, e20, e24]) Try.call12 ((eqPoly_same (cf (M k)) w2).mono fun _ _ h => ⟨_, h.1, rfl, h.2⟩)
          · obtain rfl := Option.some.inj ho
            refine .inl ⟨rfl, ?_⟩
            have e25 : a.eval (.tmp 25) = .bool true := hrd 8 _ 25 rfl rfl (by kernel_rfl) (by kernel_rfl)
            exact wpv_of (wp_not _ _ true rfl e25) (fun _ _ => rfl)
          · simp at ho
        intro vals xE hBx hSx hc0
        have e0 : vals 0 = .slice (some ⟨gA, 0, none⟩) n cA := hc0 0 (by simp)
        have e1 : vals 1 = .int .i64 ((k : Nat) : Int) := hc0 1 (by simp)
        have e2 : vals 2 = .pointer (some ⟨gA, k * 64, none⟩) := hc0 2 (by simp)
        have e3 : vals 3 = .agg (u8s 64 (cf (M k))) := hc0 3 (by simp)
        have e4 : vals 4 = .slice (some ⟨gB, 0, none⟩) n cB := hc0 4 (by simp)
        have e5 : vals 5 = .int .i64 ((k : Nat) : Int) := hc0 5 (by simp)
        have e6 : vals 6 = .pointer (some ⟨gB, k * 64, none⟩) := hc0 6 (by simp)
        have e7 : vals 7 = .agg (u8s 64 (cf (M k))) := hc0 7 (by simp)
        have e8 : vals 8 = .bool true := hc0 8 (by simp)
        have e9 : vals 9 = .bool false := hc0 9 (by simp)
        simp only [List.length_cons, List.length_nil, Nat.zero_add, Nat.reduceAdd, List.replicate, putAll, if_true, Act.put, List.setIfInBounds_toArray, List.set_cons_zero, List.set_cons_succ, e0, e1, e2, e3, e4, e5, e6, e7, e8, e9]
        clear hc0 hSx e0 e1 e2 e3 e4 e5 e6 e7 e8 e9
        replace hb := below_step hb hBx
        clear hBx
        go_wp2_with fail
        go_roundw
        case rel => exact ⟨k + 1, by omega, by go_num, hb⟩
        case measure => simp [intOf] <;> omega
      · obtain rfl : k = n := by omega
        go_wp2_with fail
        go_ret
        exact ⟨rfl, hb⟩
/-- The marks: byte j is k0 + j. -/
def mkF (k0 : Nat) (j : Nat) : Int := ((k0 + j : Nat) : Int) % 256
def Fl (w : World) (B : Nat) (v : Value) (n : Nat) (F : Nat → Int) : Prop := w.ownsRow B 25 64 v n ((List.range (n * 64)).map fun j => .int .u8 (F j))
theorem PlS.fl {w : World} {B : Nat} {v : Value} {n : Nat} {M : Nat → List Int} (h : PlS w B v n M) : Fl w B v n (fun j => cf (M (j / 64)) (j % 64)) := h
theorem Fl.below {w w' : World} {B : Nat} {v : Value} {n : Nat} {F : Nat → Int} (h : Fl w B v n F) (hb : Below w.heap.size w w') : Fl w' B v n F := owns_below' h hb
theorem Fl.ext {w : World} {B : Nat} {v : Value} {n : Nat} {F G : Nat → Int} (h : Fl w B v n F) (e : ∀ j, j < n * 64 → F j = G j) : Fl w B v n G := by
  unfold Fl at *
  rw [← show (List.range (n * 64)).map (fun j => Value.int .u8 (F j)) = (List.range (n * 64)).map (fun j => Value.int .u8 (G j)) from List.map_congr_left fun j hj => by rw [e j (List.mem_range.1 hj)]]
  exact h
theorem Fl.cell {w : World} {B g n cap : Nat} {F : Nat → Int} (h : Fl w B (.slice (some ⟨g, 0, none⟩) n cap) n F) (j : Nat) (hj : j < n * 64) : w.cell? ⟨g, j, none⟩ = some (.int .u8 (F j)) := by
  rw [World.ownsRow.cellAt h j hj, List.getElem?_map, List.getElem?_range hj]; rfl
theorem Fl.stored {w : World} {B g n cap : Nat} {F : Nat → Int} (h : Fl w B (.slice (some ⟨g, 0, none⟩) n cap) n F) (j : Nat) (hj : j < n * 64) (u : Int) :
    Fl (w.setCell ⟨g, j, none⟩ (.int .u8 u)) B (.slice (some ⟨g, 0, none⟩) n cap) n (fun q => if q = j then u else F q) := by
  have h1 := (World.ownsRow.stored h j (.int .u8 u)).1
  unfold Fl
  have e : ((List.range (n * 64)).map fun q => Value.int .u8 (F q)).set j (.int .u8 u) = (List.range (n * 64)).map fun q => Value.int .u8 (if q = j then u else F q) := by
    apply List.ext_getElem?
    intro i
    rw [List.getElem?_set, List.getElem?_map]
    by_cases h2 : i < n * 64
    · rw [List.getElem?_range h2, List.getElem?_map, List.getElem?_range h2]
      by_cases h3 : j = i
      · subst h3; simp [hj]
      · rw [if_neg h3]; simp only [Option.map_some]; rw [if_neg (fun e => h3 e.symm)]
    · rw [List.getElem?_eq_none (l := List.range (n * 64)) (by simp; omega), List.getElem?_map, List.getElem?_eq_none (l := List.range (n * 64)) (by simp; omega)]
      by_cases h3 : j = i
      · omega
      · rw [if_neg h3]; rfl
  rw [e] at h1
  exact h1
theorem mk_wrap (k0 q r : Nat) : IntKind.u8.wrap ((k0 : Int) + ((q : Int) * 64 + (r : Int))) = mkF k0 (q * 64 + r) := by
  unfold mkF
  rw [IntKind.wrap_u8]
  congr 1
  try omega
set_option maxRecDepth 20000 in
set_option maxHeartbeats 1000000 in
theorem markPolyS_any (v : Value) (n B k0 : Nat) (F : Nat → Int) (w : World) (h : Fl w B v n F) (hn : n ≤ 10000000) (hk0 : k0 ≤ 10000000000) (hB : B ≤ w.heap.size) :
    Calls Try.prog 22 #[v, .int .i64 (k0 : Int)] w fun e w' => e = .returned (.int .i64 ((k0 : Int) + (n : Int) * 64)) ∧ Fl w' B v n (mkF k0) ∧ Below B w w' := by
  by_cases h0 : n = 0
  · subst h0
    obtain ⟨oa, ca, rfl⟩ := PlS.slice (M := fun _ => []) (show PlS w B v 0 _ from h)
    have hH := Lib.hid h
    clear h
    go_enter Try.func22, Try.ntmps22
    go_wp2_with fail
    go_loopw [1, 5] (fun kv i wr => kv = .int .i64 (k0 : Int) ∧ i = .int .i64 0 ∧ wr = w) (fun _ _ _ => 0)
    case atStart => exact ⟨rfl, rfl, rfl⟩
    case round =>
      obtain ⟨rfl, rfl, rfl⟩ := hrel
      go_wp2_with fail
      go_ret
      exact ⟨by simp, hH.out, Below.refl _ _⟩
  · obtain ⟨g, cap, rfl, hg⟩ := owns_form h (by omega)
    have hH := Lib.hid h
    clear h
    go_enter Try.func22, Try.ntmps22
    go_wp2_with fail
    go_loopw [1, 5] (fun kv i wr => ∃ q : Nat, q ≤ n ∧ i = .int .i64 (q : Int) ∧ kv = .int .i64 ((k0 : Int) + (q : Int) * 64) ∧ Hid (Fl wr B (.slice (some ⟨g, 0, none⟩) n cap) n (fun j => if j < q * 64 then mkF k0 j else F j)) ∧ Below B w wr) (fun _ i _ => n - (intOf i).toNat)
    case atStart => exact ⟨0, by omega, rfl, by simp, Lib.hid (hH.out.ext fun j hj => by rw [if_neg (by omega)]), Below.refl _ _⟩
    case round =>
      obtain ⟨q, hq, rfl, rfl, hF, hb⟩ := hrel
      by_cases hlt : q < n
      · go_wp2_with fail
        go_loopw [1, 6] (fun kv jv wq => ∃ r : Nat, r ≤ 64 ∧ jv = .int .i64 (r : Int) ∧ kv = .int .i64 ((k0 : Int) + ((q : Int) * 64 + (r : Int))) ∧ Hid (Fl wq B (.slice (some ⟨g, 0, none⟩) n cap) n (fun j => if j < q * 64 + r then mkF k0 j else F j)) ∧ Below B w wq) (fun _ jv _ => 64 - (intOf jv).toNat)
        case atStart => exact ⟨0, by omega, rfl, by simp, by rw [Nat.add_zero]; exact hF, hb⟩
        case round =>
          clear hF hb
          obtain ⟨r, hr, rfl, rfl, hF, hb⟩ := hrel
          by_cases hr2 : r < 64
          · have c0 := hF.out.cell (q * 64 + r) (by omega)
            have c1 := World.ownsRow.frozenAt hF.out (q * 64 + r)
            have hw := mk_wrap k0 q r
            have hst := Lib.hid (hF.out.stored (q * 64 + r) (by omega) (mkF k0 (q * 64 + r)))
            go_wp2_with fail
            go_roundw
            case rel =>
              refine ⟨r + 1, by omega, by go_num, by go_num, Lib.hid (hst.out.ext fun j hj => ?_), hb.setCell (by show B ≤ g; exact hg) _⟩
              by_cases e : j = q * 64 + r
              · rw [if_pos e, if_pos (by omega), e]
              · rw [if_neg e]
                by_cases e2 : j < q * 64 + r
                · rw [if_pos e2, if_pos (by omega)]
                · rw [if_neg e2, if_neg (by omega)]
            case measure => simp [intOf] <;> omega
          · obtain rfl : r = 64 := by omega
            go_wp2_with fail
            go_roundw
            case rel => exact ⟨q + 1, by omega, by go_num, by first | go_num | (congr 1; omega), by rw [show (q + 1) * 64 = q * 64 + 64 by omega]; exact hF, hb⟩
            case measure => simp [intOf] <;> omega
      · obtain rfl : q = n := by omega
        go_wp2_with fail
        go_ret
        exact ⟨rfl, hF.out.ext fun j hj => if_pos hj, hb⟩
set_option maxRecDepth 20000 in
set_option maxHeartbeats 1000000 in
theorem heldPolyS_any (v : Value) (n B k0 : Nat) (w : World) (h : Fl w B v n (mkF k0)) (hn : n ≤ 10000000) (hk0 : k0 ≤ 10000000000) :
    Calls Try.prog 23 #[v, .int .i64 (k0 : Int)] w fun e w' => e = .returned (.int .i64 ((k0 : Int) + (n : Int) * 64)) ∧ w = w' := by
  by_cases h0 : n = 0
  · subst h0
    obtain ⟨oa, ca, rfl⟩ := PlS.slice (M := fun _ => []) (show PlS w B v 0 _ from h)
    clear h
    go_enter Try.func23, Try.ntmps23
    go_wp2_with fail
    go_loopw [1, 5] (fun kv i wr => kv = .int .i64 (k0 : Int) ∧ i = .int .i64 0 ∧ wr = w) (fun _ _ _ => 0)
    case atStart => exact ⟨rfl, rfl, rfl⟩
    case round =>
      obtain ⟨rfl, rfl, rfl⟩ := hrel
      go_wp2_with fail
      go_ret
      exact ⟨rfl, rfl⟩
  · obtain ⟨g, cap, rfl, _⟩ := owns_form h (by omega)
    have hF := Lib.hid h
    clear h
    go_enter Try.func23, Try.ntmps23
    go_wp2_with fail
    go_loopw [1, 5] (fun kv i wr => ∃ q : Nat, q ≤ n ∧ i = .int .i64 (q : Int) ∧ kv = .int .i64 ((k0 : Int) + (q : Int) * 64) ∧ wr = w) (fun _ i _ => n - (intOf i).toNat)
    case atStart => exact ⟨0, by omega, rfl, by simp, rfl⟩
    case round =>
      obtain ⟨q, hq, rfl, rfl, rfl⟩ := hrel
      by_cases hlt : q < n
      · go_wp2_with fail
        rename World => w5
        go_loopw [1, 6] (fun kv jv wq => ∃ r : Nat, r ≤ 64 ∧ jv = .int .i64 (r : Int) ∧ kv = .int .i64 ((k0 : Int) + ((q : Int) * 64 + (r : Int))) ∧ wq = w5) (fun _ jv _ => 64 - (intOf jv).toNat)
        case atStart => exact ⟨0, by omega, rfl, by simp, rfl⟩
        case round =>
          obtain ⟨r, hr, rfl, rfl, rfl⟩ := hrel
          by_cases hr2 : r < 64
          · have c0 := hF.out.cell (q * 64 + r) (by omega)
            have hw := mk_wrap k0 q r
            go_wp2_with fail
            go_roundw
            case rel => exact ⟨r + 1, by omega, by go_num, by go_num, by first | rfl | trivial⟩
            case measure => simp [intOf] <;> omega
          · obtain rfl : r = 64 := by omega
            go_wp2_with fail
            go_roundw
            case rel => exact ⟨q + 1, by omega, by go_num, by first | go_num | (congr 1; omega), by first | rfl | trivial⟩
            case measure => simp [intOf] <;> omega
      · obtain rfl : q = n := by omega
        go_wp2_with fail
        go_ret
        exact ⟨rfl, rfl⟩
end Go.Proofs.Ytnkkkgaojhkniab
