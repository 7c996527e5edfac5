/- Walks: a matrix that is being laid, line by line, by appends. -/
import Derived.Test.YtnkkkgaojhkniabMt6
set_option linter.unusedVariables false
set_option linter.unusedSimpArgs false
namespace Go.Proofs.Ytnkkkgaojhkniab
open Go.RowKit
/-- A block of slices that grows: rows stay. -/
theorem IsRow.grow {w w' : World} {r : Value} {xs : List Int} {g n : Nat} {R : Nat → Value} {T : TypeId} (h : IsRow w r xs) (hB : Blk w g (arr n R) T) (hR : ∀ i, i < n → ∃ a m c, R i = .slice a m c) (hu : w.grownBy w' (some g)) : IsRow w' r xs := by
  obtain ⟨oa, cap, h1, h2, h3, h4⟩ := h
  refine ⟨oa, cap, h1, h2, h3, fun hl => ?_⟩
  obtain ⟨b, off, e, hc⟩ := h4 hl
  refine ⟨b, off, e, fun i hi => ?_⟩
  by_cases hbg : b = g
  · subst hbg
    have h5 := hc i hi
    rw [hB.cell, arr_get] at h5
    split at h5
    · rename_i h6
      obtain ⟨a, m, c, h7⟩ := hR _ h6
      rw [h7] at h5
      cases h5
    · cases h5
  · exact hu.cell (hc i hi) (fun e => hbg (by injection e))
theorem IsRow.growL {w w' : World} {r v : Value} {xs : List Int} {base e q : Nat} {R : Nat → Value} (h : IsRow w r xs) (hL : LineB w base e v q R) (hu : w.grownBy w' v.ownBlock) : IsRow w' r xs := by
  rcases hL with ⟨rfl, _⟩ | ⟨b, c, rfl, _, _, _, hB, hs⟩
  · exact IsRow.grown (v := .slice none 0 0) h hu (fun k _ e => by cases e)
  · exact h.grow hB (fun j _ => hs j) hu
theorem LineB.below {w w' : World} {base e q : Nat} {v : Value} {R : Nat → Value} (h : LineB w base e v q R) (hb : Below w.heap.size w w') : LineB w' base e v q R := by
  rcases h with h | ⟨b, c, h1, h2, h3, h4, h5, h6⟩
  · exact .inl h
  · exact .inr ⟨b, c, h1, h2, h3, h4, h5.keep hb, h6⟩
theorem LineB.kept {w w' : World} {base e q : Nat} {v : Value} {R : Nat → Value} (h : LineB w base e v q R) (hb : ∀ b, v.ownBlock = some b → w'.heap[b]? = w.heap[b]?) : LineB w' base e v q R := by
  rcases h with h | ⟨b, c, h1, h2, h3, h4, h5, h6⟩
  · exact .inl h
  · refine .inr ⟨b, c, h1, h2, h3, h4, ?_, h6⟩
    unfold Blk; rw [hb b (by rw [h1]; rfl)]; exact h5
theorem LineB.lt {w : World} {base e q b : Nat} {v : Value} {R : Nat → Value} (h : LineB w base e v q R) (hb : v.ownBlock = some b) : b < w.heap.size ∧ base ≤ b := by
  rcases h with ⟨rfl, _⟩ | ⟨b', c, rfl, h2, h3, h4, h5, h6⟩
  · cases hb
  · injection hb with hb; subst hb; exact ⟨h5.lt, h2⟩
theorem LineB.mono {w : World} {base base' e q : Nat} {v : Value} {R : Nat → Value} (h : LineB w base e v q R) (hb : base' ≤ base) : LineB w base' e v q R := by
  rcases h with h | ⟨b, c, h1, h2, h3⟩
  · exact .inl h
  · exact .inr ⟨b, c, h1, Nat.le_trans hb h2, h3⟩
theorem LineB.ne {w : World} {base q b g : Nat} {v : Value} {R : Nat → Value} {cs : Array Value} (h : LineB w base 55 v q R) (hb : v.ownBlock = some b) (hg : Blk w g cs 49) : b ≠ g := fun e => by
  rcases h with ⟨rfl, _⟩ | ⟨b', c, rfl, h2, h3, h4, h5, h6⟩
  · cases hb
  · injection hb with hb
    unfold Blk at h5 hg
    rw [show b' = g from hb.trans e, hg] at h5
    injection h5 with h5; injection h5 with _ h7
    exact absurd h7 (by decide)
structure BldB (w : World) (B g n : Nat) (L : Nat → Value) (ln : Nat → Nat) (R : Nat → Nat → Value) (M : MxL) : Prop where
  out : Blk w g (arr n L) 49
  hg : B ≤ g
  sl : ∀ i, ∃ a m k, L i = .slice a m k
  line : ∀ i, i < n → LineB w B 55 (L i) (ln i) (R i)
  inj : ∀ i j b, i < n → j < n → i ≠ j → (L i).ownBlock = some b → (L j).ownBlock ≠ some b
  row : ∀ i j, i < n → j < ln i → IsRow w (R i j) (M i j)
theorem BldB.start (w : World) (n : Nat) (R : Nat → Nat → Value) (M : MxL) : BldB (w.alloc (.cells (arr n fun _ => .slice none 0 0) 49)) w.heap.size w.heap.size n (fun _ => .slice none 0 0) (fun _ => 0) R M :=
  ⟨Blk.new _ _ _, Nat.le_refl _, fun _ => ⟨_, _, _, rfl⟩, fun _ _ => .inl ⟨rfl, rfl⟩, fun _ _ _ _ _ _ h => (by cases h), fun _ j _ h => absurd h (by omega)⟩
theorem BldB.below {w w' : World} {B g n : Nat} {L : Nat → Value} {ln : Nat → Nat} {R : Nat → Nat → Value} {M : MxL} (h : BldB w B g n L ln R M) (hb : Below w.heap.size w w') : BldB w' B g n L ln R M :=
  ⟨h.out.keep hb, h.hg, h.sl, fun i hi => (h.line i hi).below hb, h.inj, fun i j hi hj => (h.row i j hi hj).below hb⟩
theorem BldB.cell {w : World} {B g n : Nat} {L : Nat → Value} {ln : Nat → Nat} {R : Nat → Nat → Value} {M : MxL} (h : BldB w B g n L ln R M) {i : Nat} (hi : i < n) : w.cell? ⟨g, i, none⟩ = some (L i) := by
  rw [h.out.cell]; exact arr_get_lt _ hi
def updF {α : Type} (f : Nat → α) (i : Nat) (v : α) : Nat → α := fun j => if j = i then v else f j
theorem updF_at {α : Type} (f : Nat → α) (i : Nat) (v : α) : updF f i v i = v := if_pos rfl
theorem updF_ne {α : Type} (f : Nat → α) {i j : Nat} (v : α) (h : j ≠ i) : updF f i v j = f j := if_neg h
/-- What stays through an append to a line. -/
theorem BldB.mid {w w2 : World} {B g n : Nat} {L : Nat → Value} {ln : Nat → Nat} {R : Nat → Nat → Value} {M : MxL} (h : BldB w B g n L ln R M) {r : Nat} (hr : r < n) (hg : w.grownBy w2 (L r).ownBlock) : Blk w2 g (arr n L) 49 := by
  unfold Blk
  rw [hg.block g h.out.lt fun e => (h.line r hr).ne e.symm h.out rfl]
  exact h.out
theorem BldB.push {w w2 : World} {B g n : Nat} {L : Nat → Value} {ln : Nat → Nat} {R : Nat → Nat → Value} {M : MxL} (h : BldB w B g n L ln R M) {r b' c' : Nat} {R' : Nat → Value} {x : Value} {xs : List Int} (hr : r < n)
    (hL : LineB w2 B 55 (.slice (some ⟨b', 0, none⟩) (ln r + 1) c') (ln r + 1) R') (hg : w.grownBy w2 (L r).ownBlock) (hR1 : ∀ j, j < ln r → R' j = R r j) (hR2 : R' (ln r) = x) (hbl : some b' = (L r).ownBlock ∨ b' = w.heap.size) (hx : IsRow w x xs) :
    BldB (w2.setCell ⟨g, r, none⟩ (.slice (some ⟨b', 0, none⟩) (ln r + 1) c')) B g n (updF L r (.slice (some ⟨b', 0, none⟩) (ln r + 1) c')) (updF ln r (ln r + 1)) (updF R r R') (updR M r (ln r) xs) := by
  have hmid := h.mid hr hg
  have hother : ∀ q, q ≠ g → (w2.setCell ⟨g, r, none⟩ (.slice (some ⟨b', 0, none⟩) (ln r + 1) c')).heap[q]? = w2.heap[q]? := fun q hq => heap_setCell_other _ _ _ _ hq
  have hrow : ∀ (v : Value) (ys : List Int), IsRow w v ys → IsRow (w2.setCell ⟨g, r, none⟩ (.slice (some ⟨b', 0, none⟩) (ln r + 1) c')) v ys := fun v ys hv =>
    (hv.growL (h.line r hr) hg).upd hmid (fun i _ => h.sl i) hother
  refine ⟨?_, h.hg, fun i => ?_, fun i hi => ?_, fun i j b hi hj hne hb => ?_, fun i j hi hj => ?_⟩
  · have := hmid.set r (.slice (some ⟨b', 0, none⟩) (ln r + 1) c')
    rw [arr_set] at this
    exact this
  · by_cases e : i = r
    · subst e; rw [updF_at]; exact ⟨_, _, _, rfl⟩
    · rw [updF_ne _ _ e]; exact h.sl i
  · by_cases e : i = r
    · subst e
      rw [updF_at, updF_at, updF_at]
      exact hL.kept fun b hb => hother b (hL.ne hb hmid)
    · rw [updF_ne _ _ e, updF_ne _ _ e, updF_ne _ _ e]
      have h1 : LineB w2 B 55 (L i) (ln i) (R i) := (h.line i hi).kept fun b hb => hg.block b ((h.line i hi).lt hb).1 fun e2 => h.inj i r b hi hr e hb e2.symm
      exact h1.kept fun b hb => hother b (h1.ne hb hmid)
  · by_cases e : i = r
    · subst e
      rw [updF_at] at hb
      rw [updF_ne _ _ (Ne.symm hne)]
      injection hb with hb
      rcases hbl with hbl | hbl
      · exact h.inj i j b hi hj hne (by rw [← hbl]; exact congrArg some hb)
      · intro h2
        have := ((h.line j hj).lt h2).1
        have : b' = b := hb
        omega
    · rw [updF_ne _ _ e] at hb
      by_cases e2 : j = r
      · subst e2
        rw [updF_at]
        intro h2
        injection h2 with h2
        rcases hbl with hbl | hbl
        · exact h.inj i j b hi hj hne hb (by rw [← hbl]; exact congrArg some h2)
        · have := ((h.line i hi).lt hb).1
          have : b' = b := h2
          omega
      · rw [updF_ne _ _ e2]; exact h.inj i j b hi hj hne hb
  · by_cases e : i = r
    · subst e
      rw [updF_at] at hj ⊢
      by_cases e2 : j = ln i
      · subst e2
        rw [hR2, updR_at]; exact hrow _ _ hx
      · rw [hR1 j (by omega), updR_ne _ _ (fun h => e2 h.2)]; exact hrow _ _ (h.row i j hi (by omega))
    · rw [updF_ne _ _ e] at hj ⊢
      rw [updR_ne _ _ (fun h => e h.1)]; exact hrow _ _ (h.row i j hi hj)
/-- All lines are laid. -/
theorem BldB.mat {w : World} {B g n : Nat} {L : Nat → Value} {ln : Nat → Nat} {R : Nat → Nat → Value} {M : MxL} (h : BldB w B g n L ln R M) (hl : ∀ i, i < n → ln i = n) (hn : 0 < n) : IsMat w B w.heap.size g n M := by
  have hch : ∀ i, ∃ b c, i < n → L i = .slice (some ⟨b, 0, none⟩) n c ∧ B ≤ b ∧ n ≤ c ∧ c ≤ maxLen ∧ Blk w b (arr c (R i)) 55 ∧ ∀ j, ∃ a m k, R i j = .slice a m k := fun i => by
    by_cases hi : i < n
    · rcases h.line i hi with ⟨_, h1⟩ | ⟨b, c, h1, h2, h3, h4, h5, h6⟩
      · rw [hl i hi] at h1; omega
      · rw [hl i hi] at h1 h3; exact ⟨b, c, fun _ => ⟨h1, h2, h3, h4, h5, h6⟩⟩
    · exact ⟨0, 0, fun h => absurd h hi⟩
  obtain ⟨b, hb⟩ := Classical.axiomOfChoice hch
  obtain ⟨c, hc⟩ := Classical.axiomOfChoice hb
  refine ⟨b, c, fun i j => if i < n then R i j else .slice none 0 0, ?_, h.hg, fun i hi => (hc i hi).2.1, h.out.lt, fun i hi => (hc i hi).2.2.2.2.1.lt, fun i hi => ⟨(hc i hi).2.2.1, (hc i hi).2.2.2.1⟩, fun i j hi hj hne e => ?_, fun i hi => ?_, fun i j => ?_, fun i j hi hj => ?_⟩
  · exact h.out.cast (arr_ext fun i hi => (hc i hi).1)
  · exact h.inj i j (b i) hi hj hne (by rw [(hc i hi).1]; rfl) (by rw [(hc j hj).1, e]; rfl)
  · have := (hc i hi).2.2.2.2.1
    exact this.cast (arr_ext fun j _ => (if_pos hi).symm)
  · by_cases hi : i < n
    · rw [if_pos hi]; exact (hc i hi).2.2.2.2.2 j
    · rw [if_neg hi]; exact ⟨none, 0, 0, rfl⟩
  · rw [if_pos hi]; exact h.row i j hi (by rw [hl i hi]; exact hj)
end Go.Proofs.Ytnkkkgaojhkniab
