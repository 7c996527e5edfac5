/- Walks: lists of rows told as lists of polynomials. -/
import Derived.Test.YtionaenmjndncabF1
import Derived.Test.YtionaenmjndncabE2
set_option linter.unusedVariables false
set_option linter.unusedSimpArgs false
namespace Go.Proofs.Ytionaenmjndncab
open Go.RowKit
theorem owns_below' {B : Nat} {e : TypeId} {k : Nat} {v : Value} {n : Nat} {xs : List Value} {w w' : World} (h : w.ownsRow B e k v n xs) (hb : Below w.heap.size w w') : w'.ownsRow B e k v n xs := by
  refine ⟨h.1, ?_⟩
  rcases h.2 with h1 | ⟨g, cap, cur, h1, h2, h3, h4⟩
  · exact .inl h1
  · exact .inr ⟨g, cap, cur, h1, h2, by rw [hb.block g (Array.getElem?_eq_some_iff.1 h3).1]; exact h3, h4⟩
theorem owns_mono' {B B' : Nat} {e : TypeId} {k : Nat} {v : Value} {n : Nat} {xs : List Value} {w : World} (h : w.ownsRow B e k v n xs) (hb : B' ≤ B) : w.ownsRow B' e k v n xs := by
  refine ⟨h.1, ?_⟩
  rcases h.2 with h1 | ⟨g, cap, cur, h1, h2, h3⟩
  · exact .inl h1
  · exact .inr ⟨g, cap, cur, h1, Nat.le_trans hb h2, h3⟩
/-- n rows that lie as cells of a slice (capacity as it may be). -/
def RwC (w : World) (v : Value) (n : Nat) (R : Nat → Value) (M : Nat → List Int) : Prop :=
  (∃ oa c, v = .slice oa n c ∧ (0 < n → ∃ g, oa = some ⟨g, 0, none⟩ ∧ ∀ i, i < n → w.cell? ⟨g, i, none⟩ = some (R i))) ∧ ∀ i, i < n → IsRow w (R i) (M i)
theorem RwC.below {w w' : World} {v : Value} {n : Nat} {R : Nat → Value} {M : Nat → List Int} (h : RwC w v n R M) (hb : Below w.heap.size w w') : RwC w' v n R M := by
  obtain ⟨⟨oa, c, h1, h2⟩, h3⟩ := h
  refine ⟨⟨oa, c, h1, fun h0 => ?_⟩, fun i hi => (h3 i hi).below hb⟩
  obtain ⟨g, e, hg⟩ := h2 h0
  exact ⟨g, e, fun i hi => cell_below (hg i hi) hb⟩
theorem RwB.c {w : World} {B T n : Nat} {v : Value} {R : Nat → Value} {M : Nat → List Int} (h : RwB w B T v n R M) : RwC w v n R M := by
  obtain ⟨⟨oa, h1, h2⟩, h3⟩ := h
  refine ⟨⟨oa, n, h1, fun h0 => ?_⟩, h3⟩
  obtain ⟨g, e, _, hg⟩ := h2 h0
  exact ⟨g, e, fun i hi => by rw [hg.cell, arr_get_lt R hi]⟩
def fitsF : Value := .func (.func 64) #[] #[]
def areAllRF (bf : Nat) : Value := .func (.func 95) #[] #[.pointer (some ⟨bf, 0, none⟩)]
set_option maxHeartbeats 400000 in
theorem areAllR1 (r : Value) (xs : List Int) (bf : Nat) (b : Bool) (w : World) (hr : IsRow w r xs) (hfc : w.cell? ⟨bf, 0, none⟩ = some fitsF) (hb : decide (xs.length ≤ 64) = b) :
    Calls Try.prog 95 #[r, .pointer (some ⟨bf, 0, none⟩)] w fun e w' => e = .returned (.bool (!b)) ∧ Below w.heap.size w w' := by
  have H1 := Lib.hid (fits_any r xs w hr b hb)
  have hlt : bf < w.heap.size := block_lt_of_cell hfc
  obtain ⟨a1, m1, c1, rfl⟩ := hr.isSlice
  unfold fitsF at hfc
  clear hr hb
  go_enter Try.func95, Try.ntmps95
  go_wp2_with fail
  refine H1.out.mono ?_
  rintro e u1 ⟨rfl, rfl⟩
  go_wp2_with fail
  go_ret
  exact ⟨rfl, Below.refl _ _⟩
set_option maxHeartbeats 400000 in
theorem indexR (v : Value) (n : Nat) (R : Nat → Value) (M : Nat → List Int) (bf : Nat) (w : World) (hn : n ≤ 1000000000)
    (hC : RwC w v n R M) (hfc : w.cell? ⟨bf, 0, none⟩ = some fitsF) :
    Calls Try.prog 98 #[v, areAllRF bf] w (IdxPostB (∀ k, k < n → (M k).length ≤ 64) w) := by
  obtain ⟨⟨oa, cO, rfl, hO⟩, hR⟩ := hC
  have hOH := Lib.hid hO
  have hRH := Lib.hid hR
  have hfcH := Lib.hid hfc
  clear hO hR hfc
  unfold areAllRF
  go_enter Try.func98, Try.ntmps98
  go_wp2
  go_loopw [8] (fun i wr => ∃ k : Nat, k ≤ n ∧ i = .int .i64 k ∧ (∀ j, j < k → (M j).length ≤ 64) ∧ Below w.heap.size w wr) (fun i _ => n - (intOf i).toNat)
  case atStart => exact ⟨0, by omega, rfl, fun j hj => by omega, Below.refl _ _⟩
  case round =>
    obtain ⟨k, hk, rfl, hall, hb⟩ := hrel
    have hallH := Lib.hid hall; clear hall
    by_cases hlt : k < n
    · obtain ⟨g, rfl, hB⟩ := hOH.out (by omega)
      have c0 : wr.cell? ⟨g, k, none⟩ = some (R k) := cell_below (hB k hlt) hb
      have hRk := (hRH.out k hlt).below hb
      obtain ⟨b, hbb⟩ : ∃ b, decide ((M k).length ≤ 64) = b := ⟨_, rfl⟩
      have H1 := Lib.hid (areAllR1 (R k) (M k) bf b wr hRk (cell_below hfcH.out hb) hbb)
      have hbbH := Lib.hid hbb
      have hltH := hlt
      obtain ⟨a1, m1, c1, hsl⟩ := hRk.isSlice
      rw [hsl] at c0 H1
      clear hbb hRk hB hsl
      go_wp2_with fail
      refine H1.out.mono ?_
      rintro e u1 ⟨rfl, hb1⟩
      cases b
      · go_wp2_with fail
        go_ret
        refine ⟨k, rfl, fun hg => ?_, fun _ => by omega, hb.trans (hb1.mono hb.size)⟩
        exact absurd (hg k hltH) (of_decide_eq_false hbbH.out)
      · go_wp2_with fail
        go_roundw
        case rel =>
          refine ⟨k + 1, by omega, by go_num, fun j hj => ?_, hb.trans (hb1.mono hb.size)⟩
          by_cases e1 : j = k
          · subst e1; exact of_decide_eq_true hbbH.out
          · exact hallH.out j (by omega)
        case measure => simp [intOf]; omega
    · obtain rfl : k = n := by omega
      go_wp2_with fail
      go_ret
      exact ⟨-1, rfl, fun _ => rfl, fun hg => absurd hallH.out hg, hb⟩
theorem containsR (v : Value) (n : Nat) (R : Nat → Value) (M : Nat → List Int) (bf : Nat) (w : World) (hn : n ≤ 1000000000)
    (hC : RwC w v n R M) (hfc : w.cell? ⟨bf, 0, none⟩ = some fitsF) (b : Bool) (hb : (∀ k, k < n → (M k).length ≤ 64) ↔ b = true) :
    Calls Try.prog 94 #[v, areAllRF bf] w fun e w' => e = .returned (.bool (!b)) ∧ Below w.heap.size w w' := by
  have h1 := indexR v n R M bf w hn hC hfc
  have h1 : Calls Try.prog 98 #[v, areAllRF bf] w fun e w' => ∃ r : Int, e = .returned (.int .i64 r) ∧ decide (0 ≤ r) = !b ∧ Below w.heap.size w w' := by
    refine h1.mono ?_
    rintro e w' ⟨r, rfl, h2, h3, h4⟩
    refine ⟨r, rfl, ?_, h4⟩
    cases b
    · have := h3 (fun h => by simpa using hb.1 h); simp; omega
    · have := h2 (hb.2 rfl); simp; omega
  have H1 := Lib.hid h1; clear h1 hfc hb
  obtain ⟨⟨oa, cO, rfl, _⟩, _⟩ := hC
  unfold areAllRF at *
  go_enter Try.func94, Try.ntmps94
  go_wp2_with (go_at_call 98; refine H1.out.mono ?_; rintro e w' ⟨r, rfl, hr, hb1⟩)
  go_ret
  exact ⟨by simp, hb1⟩
set_option maxHeartbeats 400000 in
theorem areAllR (v : Value) (n : Nat) (R : Nat → Value) (M : Nat → List Int) (w : World) (hn : n ≤ 1000000000)
    (hC : RwC w v n R M) (b : Bool) (hb : (∀ k, k < n → (M k).length ≤ 64) ↔ b = true) :
    Calls Try.prog 72 #[v, fitsF] w fun e w' => e = .returned (.bool b) ∧ Below w.heap.size w w' := by
  have hb0 := below_new w (.cells #[fitsF] 84)
  have hf2 : (w.alloc (.cells #[fitsF] 84)).cell? ⟨w.heap.size, 0, none⟩ = some fitsF := by
    rw [World.cell?_alloc_at _ _ _ _ rfl]; rfl
  have h1 := containsR v n R M w.heap.size _ hn (hC.below hb0) hf2 b hb
  have H1 := Lib.hid h1; clear h1 hb hf2
  obtain ⟨⟨oa, cO, rfl, _⟩, _⟩ := hC
  unfold areAllRF fitsF at *
  go_enter Try.func72, Try.ntmps72
  go_wp2_with (go_at_call 94; refine H1.out.mono ?_; rintro e w' ⟨rfl, hb1⟩)
  go_ret
  exact ⟨by simp, below_step hb0 hb1⟩

/-- n polynomials that lie in a block of their own. -/
def pcell (M : Nat → List Int) (j : Nat) : Value := .int .u8 (cf (M (j / 64)) (j % 64))
def PlS (w : World) (B : Nat) (v : Value) (n : Nat) (M : Nat → List Int) : Prop := w.ownsRow B 23 64 v n ((List.range (n * 64)).map (pcell M))
theorem pcells_succ (M : Nat → List Int) (n : Nat) : (List.range ((n + 1) * 64)).map (pcell M) = (List.range (n * 64)).map (pcell M) ++ (u8s 64 (cf (M n))).toList := by
  rw [Nat.add_mul, Nat.one_mul, List.range_add, List.map_append, List.map_map]
  congr 1
  unfold u8s
  rw [arr_list]
  apply List.map_congr_left
  intro j hj
  have := List.mem_range.1 hj
  show pcell M (n * 64 + j) = _
  unfold pcell
  rw [show (n * 64 + j) / 64 = n by omega, show (n * 64 + j) % 64 = j by omega]
set_option maxRecDepth 20000 in
set_option maxHeartbeats 1000000 in
theorem polys_any (v : Value) (n : Nat) (R : Nat → Value) (M : Nat → List Int) (w : World) (hn : n ≤ 1000000)
    (hC : RwC w v n R M) (hx : ∀ k, k < n → (∀ i, 0 ≤ cf (M k) i ∧ cf (M k) i ≤ 255) ∧ (M k).length ≤ 64) :
    Calls Try.prog 73 #[v] w fun e w' => ∃ v', e = .returned v' ∧ PlS w' w.heap.size v' n M ∧ Below w.heap.size w w' := by
  obtain ⟨⟨oa, cO, rfl, hO⟩, hR⟩ := hC
  have hOH := Lib.hid hO
  have hRH := Lib.hid hR
  have hxH := Lib.hid hx
  clear hO hR hx
  go_enter Try.func73, Try.ntmps73
  go_wp2_with fail
  go_loopw [3, 8] (fun u i wr => ∃ k : Nat, k ≤ n ∧ i = .int .i64 k ∧ Hid (PlS wr w.heap.size u k M) ∧ Below w.heap.size w wr) (fun _ i _ => n - (intOf i).toNat)
  case atStart => exact ⟨0, by omega, rfl, Lib.hid (World.ownsRow_nil _ _ _ _), Below.refl _ _⟩
  case round =>
    obtain ⟨k, hk, rfl, hP, hb⟩ := hrel
    by_cases hlt : k < n
    · obtain ⟨g, rfl, hB⟩ := hOH.out (by omega)
      have c0 : wr.cell? ⟨g, k, none⟩ = some (R k) := cell_below (hB k hlt) hb
      have hRk := (hRH.out k hlt).below hb
      have H1 := Lib.hid (poly_any (R k) (M k) wr hRk (hxH.out k hlt).1 (hxH.out k hlt).2)
      obtain ⟨a1, m1, c1, hsl⟩ := hRk.isSlice
      rw [hsl] at c0 H1
      clear hRk hB hsl
      go_wp2_with fail
      refine H1.out.mono ?_
      rintro e u1 ⟨rfl, hb1⟩
      have hP1 := Lib.hid (owns_below' hP.out hb1)
      have hb2 := below_step hb hb1
      clear hP hb hb1 c0
      have hP2 := Lib.hid (hP1.out.alloc (.cells (u8s (1 * 64) (polysF [cf (M k)])) 23))
      have hnew : ∀ j u, ((u8s 64 (cf (M k))).toList)[j]? = some u → (u1.alloc (.cells (u8s (1 * 64) (polysF [cf (M k)])) 23)).cell? ⟨u1.heap.size, j, none⟩ = some u := fun j u hj => by
        rw [(Blk.new u1 (u8s (1 * 64) (polysF [cf (M k)])) 23).cell]
        rw [Array.getElem?_toList] at hj
        by_cases h : j < 64
        · rw [u8s_get _ h] at hj
          rw [u8s_get _ (by omega), ← hj]
          unfold polysF
          rw [show j / 64 = 0 by omega, show j % 64 = j by omega]; rfl
        · rw [Array.getElem?_eq_none (by rw [u8s_size]; omega)] at hj; cases hj
      have hnewH := Lib.hid hnew
      have h1c := Lib.hid (fun u (hu : u ∈ (u8s 64 (cf (M k))).toList) => (Array.all_eq_true_iff_forall_mem.1 (u8s_oneCell 64 (cf (M k)))) u (by simpa using hu))
      have hsz := hb2.size
      have hb3 := hb2.alloc hsz (.cells (u8s (1 * 64) (polysF [cf (M k)])) 23)
      clear hnew hP1
      go_wp2_with (first | (refine wpl_buildSlice_polys rfl 29 23 1 _ rfl Try.underlying29 sPoly zPoly [cf (M k)] rfl (by decide) (by decide) rfl ?_) | (at_builtin; refine wpl_append_one rfl _ _ 29 rfl w.heap.size 23 _ 64 64 Try.underlying29 iPoly (by simp [Value.cells, u8s_size]) (by decide) (by decide) _ k _ rfl hP2.out u1.heap.size rfl (u8s 64 (cf (M k))).toList (by rw [Array.length_toList, u8s_size]) hnewH.out h1c.out (by omega) (by simp only [size_alloc]; omega) ?_))
      intro v' w2 hown3 hbb2
      have hP3 : PlS w2 w.heap.size v' (k + 1) M := by unfold PlS; rw [pcells_succ]; exact hown3
      have hP3H := Lib.hid hP3
      have hb4 := hb3.trans hbb2
      clear hown3 hbb2 hP3
      go_wp2_with fail
      go_roundw
      case rel => exact ⟨k + 1, by omega, by go_num, hP3H, hb4⟩
      case measure => simp [intOf] <;> omega
    · obtain rfl : k = n := by omega
      go_wp2_with fail
      go_ret
      exact ⟨_, rfl, hP.out, hb⟩
set_option maxHeartbeats 400000 in
theorem toldAll_any (v : Value) (n : Nat) (R : Nat → Value) (M : Nat → List Int) (w : World) (hn : n ≤ 1000000)
    (hC : RwC w v n R M) (hx : ∀ k, k < n → ∀ i, 0 ≤ cf (M k) i ∧ cf (M k) i ≤ 255) (b : Bool) (hb : (∀ k, k < n → (M k).length ≤ 64) ↔ b = true) :
    Calls Try.prog 37 #[v] w fun e w' => ∃ v', e = .returned (.tuple #[v', .int .i64 (if b then 0 else 3)]) ∧ PlS w' w.heap.size v' (if b then n else 0) M ∧ Below w.heap.size w w' := by
  have H1 := Lib.hid (areAllR v n R M w (by omega) hC b hb)
  cases b
  · clear hb hC
    unfold fitsF at H1
    go_enter Try.func37, Try.ntmps37
    go_wp2_with fail
    refine H1.out.mono ?_
    rintro e u1 ⟨rfl, hb1⟩
    go_wp2_with fail
    go_ret2
    exact ⟨_, rfl, World.ownsRow_nil _ _ _ _, hb1⟩
  · have hCH := Lib.hid hC
    have hlen := Lib.hid (hb.2 rfl)
    have hxH := Lib.hid hx
    have H2 := Lib.hid (fun w1 (h : Below w.heap.size w w1) => polys_any v n R M w1 hn (hC.below h) fun k hk => ⟨hx k hk, hb.2 rfl k hk⟩)
    clear hb hC hx
    unfold fitsF at H1
    go_enter Try.func37, Try.ntmps37
    go_wp2_with fail
    refine H1.out.mono ?_
    rintro e u1 ⟨rfl, hb1⟩
    go_wp2_with fail
    refine (H2.out _ hb1).mono ?_
    rintro e u2 ⟨v', rfl, hP, hb2⟩
    have hPH := Lib.hid hP
    clear hP
    go_wp2_with fail
    go_ret2
    exact ⟨_, rfl, owns_mono' hPH.out hb1.size, below_step hb1 hb2⟩
end Go.Proofs.Ytionaenmjndncab
