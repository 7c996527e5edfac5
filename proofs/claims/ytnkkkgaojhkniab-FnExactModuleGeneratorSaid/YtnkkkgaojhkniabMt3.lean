/- Walks: two lines and two columns of a matrix exchanged. -/
import Derived.Test.YtnkkkgaojhkniabMt1
set_option linter.unusedVariables false
set_option linter.unusedSimpArgs false
namespace Go.Proofs.Ytnkkkgaojhkniab
open Go.RowKit
theorem arr_set2 (n : Nat) (F : Nat → Value) {k x : Nat} (hk : k < n) (hx : x < n) : ((arr n F).setIfInBounds k (F x)).setIfInBounds x (F k) = arr n fun i => F (swp k x i) := by
  apply Array.ext_getElem?
  intro i
  rw [Array.getElem?_setIfInBounds, Array.getElem?_setIfInBounds, arr_get, arr_get, Array.size_setIfInBounds, arr_size]
  unfold swp
  by_cases e1 : x = i
  · subst e1
    rw [if_pos rfl, if_pos hx, if_pos hx]
    by_cases e2 : x = k
    · subst e2; rw [if_pos rfl]
    · rw [if_neg e2, if_pos rfl]
  · rw [if_neg e1]
    by_cases e2 : k = i
    · subst e2; rw [if_pos rfl, if_pos hk, if_pos hk, if_pos rfl]
    · rw [if_neg e2]
      by_cases hi : i < n
      · rw [if_pos hi, if_pos hi, if_neg (Ne.symm e2), if_neg (Ne.symm e1)]
      · rw [if_neg hi, if_neg hi]
/-- Two lines exchanged, by two stores. -/
theorem MatB.swapL {w : World} {B U g n : Nat} {b c : Nat → Nat} {R : Nat → Nat → Value} {M : MxL} (h : MatB w B U g n b c R M) {k x : Nat} (hk : k < n) (hx : x < n) :
    MatB ((w.setCell ⟨g, k, none⟩ (.slice (some ⟨b x, 0, none⟩) n (c x))).setCell ⟨g, x, none⟩ (.slice (some ⟨b k, 0, none⟩) n (c k))) B U g n (fun i => b (swp k x i)) (fun i => c (swp k x i)) (fun i j => R (swp k x i) j) (fun i j => M (swp k x i) j) := by
  have hu : ∀ q, q ≠ g → ((w.setCell ⟨g, k, none⟩ (.slice (some ⟨b x, 0, none⟩) n (c x))).setCell ⟨g, x, none⟩ (.slice (some ⟨b k, 0, none⟩) n (c k))).heap[q]? = w.heap[q]? := fun q hq => by
    rw [heap_setCell_other _ _ _ _ hq, heap_setCell_other _ _ _ _ hq]
  refine h.lines hk hx ?_ (fun i hi => ?_) fun i j hi hj => ?_
  · have h1 := (h.out.set k (.slice (some ⟨b x, 0, none⟩) n (c x))).set x (.slice (some ⟨b k, 0, none⟩) n (c k))
    rw [arr_set2 n (fun i => .slice (some ⟨b i, 0, none⟩) n (c i)) hk hx] at h1
    exact h1
  · unfold Blk; rw [hu _ (h.ne hi)]; exact h.inn i hi
  · exact (h.row i j hi hj).upd h.out (fun i _ => ⟨_, _, _, rfl⟩) hu
/-- Two entries of a line exchanged, by two stores. -/
theorem MatB.swapE {w : World} {B U g n : Nat} {b c : Nat → Nat} {R : Nat → Nat → Value} {M : MxL} (h : MatB w B U g n b c R M) {r k y : Nat} (hr : r < n) (hk : k < n) (hy : y < n) :
    MatB ((w.setCell ⟨b r, k, none⟩ (R r y)).setCell ⟨b r, y, none⟩ (R r k)) B U g n b c (fun i j => R i (if i = r then swp k y j else j)) (fun i j => M i (if i = r then swp k y j else j)) := by
  have hu : ∀ q, q ≠ b r → ((w.setCell ⟨b r, k, none⟩ (R r y)).setCell ⟨b r, y, none⟩ (R r k)).heap[q]? = w.heap[q]? := fun q hq => by
    rw [heap_setCell_other _ _ _ _ hq, heap_setCell_other _ _ _ _ hq]
  have hcp := h.cap r hr
  refine ⟨?_, h.hg, h.hb, h.up, h.upb, h.cap, h.inj, fun i hi => ?_, fun i j => h.sl _ _, fun i j hi hj => ?_⟩
  · unfold Blk; rw [hu _ (Ne.symm (h.ne hr))]; exact h.out
  · by_cases e : i = r
    · subst e
      simp only [if_true]
      have h1 := ((h.inn i hi).set k (R i y)).set y (R i k)
      rw [arr_set2 (c i) (R i) (by omega) (by omega)] at h1
      exact h1
    · simp only [if_neg e]
      unfold Blk; rw [hu _ (h.inj i r hi hr e)]; exact h.inn i hi
  · have hup : ∀ i j, i < n → j < n → IsRow ((w.setCell ⟨b r, k, none⟩ (R r y)).setCell ⟨b r, y, none⟩ (R r k)) (R i j) (M i j) := fun i j hi hj =>
      (h.row i j hi hj).upd (h.inn r hr) (fun q _ => h.sl r q) hu
    by_cases e : i = r
    · subst e; simp only [if_true]; exact hup _ _ hi (swp_S (S := (· < n)) hk hy hj)
    · simp only [if_neg e]; exact hup _ _ hi hj
theorem MatB.drew {w : World} {B U g n : Nat} {b c : Nat → Nat} {R : Nat → Nat → Value} {M : MxL} (h : MatB w B U g n b c R M) : MatB w.drew B U g n b c R M := h.below (Below.refl _ _).drew
theorem MatB.free1 {w : World} {B U g n : Nat} {b c : Nat → Nat} {R : Nat → Nat → Value} {M : MxL} (h : MatB w B U g n b c R M) (k : Nat) : w.frozen? ⟨g, k, none⟩ = false := h.out.free k
theorem MatB.free2 {w : World} {B U g n : Nat} {b c : Nat → Nat} {R : Nat → Nat → Value} {M : MxL} (h : MatB w B U g n b c R M) {i : Nat} (hi : i < n) (k : Nat) : w.frozen? ⟨b i, k, none⟩ = false := (h.inn i hi).free k
theorem Blk.set_cell {w : World} {g n : Nat} {F : Nat → Value} {T : TypeId} (h : Blk w g (arr n F) T) {k x : Nat} (hx : x < n) : (w.setCell ⟨g, k, none⟩ (F x)).cell? ⟨g, x, none⟩ = some (F x) := by
  rw [(h.set k (F x)).cell, Array.getElem?_setIfInBounds]
  split
  · rename_i e; subst e; rw [arr_size, if_pos hx]
  · exact arr_get_lt F hx
set_option maxRecDepth 20000 in
set_option maxHeartbeats 4000000 in
theorem swap_any (B U g n k x y : Nat) (M : MxL) (w : World) (h : IsMat w B U g n M) (hn : n ≤ 6) (hk : k < n) (hx : x < n) (hy : y < n) :
    Calls Try.prog 64 #[.slice (some ⟨g, 0, none⟩) n n, .int .i64 k, .int .i64 x, .int .i64 y] w fun e w' => e = .returned (.tuple #[]) ∧ IsMat w' B U g n (swpM k x y M) ∧ Kept B U w w' := by
  obtain ⟨b, c, R, hM⟩ := h
  have hnI : (n : Int) ≤ 6 := by omega
  have hkI : (k : Int) < (n : Int) := by omega
  have hxI : (x : Int) < (n : Int) := by omega
  have hyI : (y : Int) < (n : Int) := by omega
  have c1 := hM.cell1 hx
  have c2 := hM.cell1 hk
  have f1 := hM.free1 k
  have f2 := hM.free1 x
  have c3 : (w.setCell ⟨g, k, none⟩ (.slice (some ⟨b x, 0, none⟩) n (c x))).cell? ⟨g, x, none⟩ = some (.slice (some ⟨b x, 0, none⟩) n (c x)) := hM.out.set_cell (F := fun i => .slice (some ⟨b i, 0, none⟩) n (c i)) hx
  have hM2 := Lib.hid (hM.swapL hk hx)
  have hBg := hM.hg
  have hbA := Lib.hid ((Kept.refl B U w).upd (((Below.refl B w).setCell (show B ≤ (Addr.mk g k none).block by exact hBg) (.slice (some ⟨b x, 0, none⟩) n (c x))).setCell (show B ≤ (Addr.mk g x none).block by exact hBg) (.slice (some ⟨b k, 0, none⟩) n (c k)))
    (fun q hq => by rw [heap_setCell_other _ _ _ _ hq, heap_setCell_other _ _ _ _ hq]) hM.up hM.out (fun i _ => ⟨_, _, _, rfl⟩))
  clear hM hBg
  go_enter Try.func64, Try.ntmps64
  go_upto_region 0 with (fail)
  go_region
  clear c1 c2 c3 f1 f2
  go_wp2_with fail
  go_loopw [26] (fun iv wr => ∃ (r : Nat) (R' : Nat → Nat → Value), r ≤ n ∧ iv = .int .i64 (r : Int) ∧ MatB wr B U g n (fun i => b (swp k x i)) (fun i => c (swp k x i)) R' (fun i j => M (swp k x i) (if i < r then swp k y j else j)) ∧ Kept B U w wr) (fun iv _ => n - (intOf iv).toNat)
  case atStart => exact ⟨0, _, Nat.zero_le _, rfl, hM2.out.drew, hbA.out.drew⟩
  case round =>
    clear hM2 hbA
    obtain ⟨r, R', hr, rfl, hM, hb⟩ := hrel
    by_cases hrn : r < n
    · have hrI : (r : Int) < (n : Int) := by omega
      have c0 := hM.cell1 hrn
      have d1 := hM.cell2 hrn hy
      have d2 := hM.cell2 hrn hk
      have d3 : (wr.setCell ⟨b (swp k x r), k, none⟩ (R' r y)).cell? ⟨b (swp k x r), y, none⟩ = some (R' r y) := (hM.inn r hrn).set_cell (F := R' r) (by have := (hM.cap r hrn).1; omega)
      have f1 := hM.free2 hrn k
      have f2 := hM.free2 hrn y
      have hbl := hM.hb r hrn
      have hbu := hM.upb r hrn
      have hM2 := Lib.hid (hM.swapE hrn hk hy)
      have hb2 := Lib.hid (hb.upd (((Below.refl B wr).setCell (show B ≤ (Addr.mk (b (swp k x r)) k none).block by exact hbl) (R' r y)).setCell (show B ≤ (Addr.mk (b (swp k x r)) y none).block by exact hbl) (R' r k))
        (fun q hq => by rw [heap_setCell_other _ _ _ _ hq, heap_setCell_other _ _ _ _ hq]) hbu (hM.inn r hrn) (fun q _ => hM.sl r q))
      obtain ⟨a1, m1, k1, e1⟩ := hM.sl r y
      obtain ⟨a2, m2, k2, e2⟩ := hM.sl r k
      rw [e1] at d1 d3 hM2 hb2
      rw [e2] at d2 hM2 hb2
      clear e1 e2 hM hb hbl hbu
      obtain ⟨gr, hgr⟩ : ∃ q, b (swp k x r) = q := ⟨_, rfl⟩
      obtain ⟨cr, hcr⟩ : ∃ q, c (swp k x r) = q := ⟨_, rfl⟩
      simp only [hgr, hcr] at c0 d1 d2 d3 f1 f2 hM2 hb2
      clear hgr hcr
      go_upto_region 4 with (fail)
      go_region
      clear c0 d1 d2 d3 f1 f2
      go_wp2_with fail
      go_roundw
      case rel =>
        refine ⟨r + 1, _, by omega, by go_num, (hM2.out.congr fun i j hi hj => ?_).drew, hb2.out.drew⟩
        by_cases e : i = r
        · subst e; simp only [if_true, Nat.lt_irrefl, if_false, Nat.lt_succ_self]
        · simp only [if_neg e, show (i < r + 1) = (i < r) from propext (by omega)]
      case measure => simp [intOf] <;> omega
    · obtain rfl : r = n := by omega
      go_wp2_with fail
      go_end0
      exact ⟨rfl, ⟨_, _, _, hM.congr fun i j hi hj => by unfold swpM; rw [if_pos hi]⟩, hb⟩
end Go.Proofs.Ytnkkkgaojhkniab
