/- Walks: slices.Concat over two lists of polynomials. -/
import Derived.Test.YtionaenmjndncabG2
set_option linter.unusedVariables false
set_option linter.unusedSimpArgs false
namespace Go.Proofs.Ytionaenmjndncab
open Go.RowKit
def catF (n : Nat) (F G : Nat → Int) (j : Nat) : Int := if j < n * 64 then F j else G (j - n * 64)
theorem cat_cells (n m : Nat) (F G : Nat → Int) : ((List.range (n * 64)).map fun j => Value.int .u8 (F j)) ++ ((List.range (m * 64)).map fun j => Value.int .u8 (G j)) = (List.range ((n + m) * 64)).map fun j => Value.int .u8 (catF n F G j) := by
  rw [Nat.add_mul, List.range_add, List.map_append, List.map_map]
  congr 1
  · apply List.map_congr_left
    intro j hj
    have := List.mem_range.1 hj
    unfold catF; rw [if_pos this]
  · apply List.map_congr_left
    intro j hj
    show _ = Value.int .u8 (catF n F G (n * 64 + j))
    unfold catF; rw [if_neg (by omega), show n * 64 + j - n * 64 = j by omega]
theorem Fl.news {w wr : World} {B g n cap : Nat} {H : Nat → Int} (h : Fl w B (.slice (some ⟨g, 0, none⟩) n cap) n H) (hb : Below w.heap.size w wr) :
    ∀ j u, ((List.range (n * 64)).map fun j => Value.int .u8 (H j))[j]? = some u → wr.cell? ((⟨g, 0, none⟩ : Addr).add j) = some u := fun j u hj => by
  rw [addr_add]
  by_cases h1 : j < n * 64
  · rw [List.getElem?_map, List.getElem?_range h1] at hj
    have h2 := h.cell j h1
    rw [hb.cell (block_lt_of_cell h2), h2]; exact hj
  · rw [List.getElem?_eq_none (by simp; omega)] at hj; cases hj
theorem u8_ones (n : Nat) (H : Nat → Int) : ∀ u ∈ ((List.range (n * 64)).map fun j => Value.int .u8 (H j)), u.oneCell' = true := fun u hu => by
  obtain ⟨j, _, rfl⟩ := List.mem_map.1 hu; rfl
set_option maxRecDepth 20000 in
set_option maxHeartbeats 2000000 in
theorem concatP_any (ga gb gS na nb ca cb BA BB : Nat) (F G : Nat → Int) (w : World) (hA : Fl w BA (.slice (some ⟨ga, 0, none⟩) na ca) na F) (hB : Fl w BB (.slice (some ⟨gb, 0, none⟩) nb cb) nb G)
    (hS : Blk w gS #[.slice (some ⟨ga, 0, none⟩) na ca, .slice (some ⟨gb, 0, none⟩) nb cb] 29) (hna : na ≤ 10000000) (hnb : nb ≤ 10000000) :
    Calls Try.prog 75 #[.slice (some ⟨gS, 0, none⟩) 2 2] w fun e w' => ∃ v, e = .returned v ∧ Fl w' w.heap.size v (na + nb) (catF na F G) ∧ Below w.heap.size w w' := by
  have c0 : w.cell? ⟨gS, 0, none⟩ = some (.slice (some ⟨ga, 0, none⟩) na ca) := by rw [hS.cell]; rfl
  have c1 : w.cell? ⟨gS, 1, none⟩ = some (.slice (some ⟨gb, 0, none⟩) nb cb) := by rw [hS.cell]; rfl
  obtain ⟨N, hN⟩ : ∃ N, na + nb = N := ⟨_, rfl⟩
  have hgr := Lib.hid (growP_any N w (by omega))
  have hNH := Lib.hid hN
  have hgS : gS < w.heap.size := block_lt_of_cell c0
  have hAH := Lib.hid hA
  have hBH := Lib.hid hB
  have hSH := Lib.hid hS
  have hab : (na : Int) + (nb : Int) = (N : Int) := by omega
  have hNle : N ≤ 20000000 := by omega
  clear hA hB hS hN
  go_enter Try.func75, Try.ntmps75
  go_wp2_with fail
  go_loopw [3, 11] (fun sv iv wr => ∃ k : Nat, k ≤ 2 ∧ iv = .int .i64 (k : Int) ∧ sv = .int .i64 (((if k = 0 then 0 else if k = 1 then na else N : Nat)) : Int) ∧ w = wr) (fun _ iv _ => 2 - (intOf iv).toNat)
  case atStart => exact ⟨0, by omega, rfl, rfl, rfl⟩
  case round =>
    obtain ⟨k, hk, rfl, rfl, rfl⟩ := hrel
    match k, hk with
    | 0, _ =>
      go_wp2_with fail
      go_roundw
      case rel => exact ⟨1, by omega, rfl, by simp, by first | rfl | trivial⟩
      case measure => simp [intOf]
    | 1, _ =>
      go_wp2_with fail
      go_roundw
      case rel => exact ⟨2, by omega, rfl, by simp, by first | rfl | trivial⟩
      case measure => simp [intOf]
    | 2, _ =>
      go_wp2_with fail
      refine (hgr.out).mono ?_
      rintro e w1 ⟨v, rfl, hv, hn⟩
      have hv0 := Lib.hid (hv (catF na F G))
      have hb := hn
      clear hn hv hSH
      go_wp2_with fail
      go_loopw [6, 27] (fun u iv wr => ∃ k : Nat, k ≤ 2 ∧ iv = .int .i64 (k : Int) ∧ Hid (Fl wr w.heap.size u (if k = 0 then 0 else if k = 1 then na else N) (catF na F G)) ∧ Below w.heap.size w wr) (fun _ iv _ => 2 - (intOf iv).toNat)
      case atStart => exact ⟨0, by omega, rfl, by simpa using hv0, hb⟩
      case round =>
        clear hv0 hb
        obtain ⟨k, hk, rfl, hF, hb⟩ := hrel
        match k, hk with
        | 0, _ =>
        rw [if_pos rfl] at hF
        have d0 := (hb.cell hgS).trans c0
        have hge := owned_ge hF.out
        go_wp2_with (first | (at_builtin; refine wpl_append_grow rfl _ _ 29 rfl w.heap.size 23 _ 64 64 Try.underlying29 iPoly (by simp [Value.cells, u8s_size]) (by decide) (by decide) _ (0) _ rfl hF.out ⟨ga, 0, none⟩ na ca rfl ((List.range (na * 64)).map fun j => Value.int .u8 (F j)) (by simp) (hAH.out.news hb) (u8_ones na F) (by omega) hb.size ?_; intro v4 w4 hown4 hg4))
        have hF5 := Lib.hid (show Fl w4 w.heap.size v4 (na) (catF na F G) by have h := hown4; rw [Nat.zero_add] at h; exact Fl.ext (F := F) h (fun j hj => by unfold catF; rw [if_pos hj]))
        have hb5 := hb.trans (grown_belowP hg4 (fun q e => hge q e) hb.size)
        clear hown4 hg4 hF hge
        go_wp2_with fail
        go_roundw
        case rel => exact ⟨1, by omega, rfl, by simpa using hF5, hb5⟩
        case measure => simp [intOf]
        | 1, _ =>
        rw [if_neg (by decide), if_pos rfl] at hF
        replace hF := Lib.hid (hF.out.ext (G := F) fun j hj => by unfold catF; rw [if_pos hj])
        have d0 := (hb.cell hgS).trans c1
        have hge := owned_ge hF.out
        go_wp2_with (first | (at_builtin; refine wpl_append_grow rfl _ _ 29 rfl w.heap.size 23 _ 64 64 Try.underlying29 iPoly (by simp [Value.cells, u8s_size]) (by decide) (by decide) _ (na) _ rfl hF.out ⟨gb, 0, none⟩ nb cb rfl ((List.range (nb * 64)).map fun j => Value.int .u8 (G j)) (by simp) (hBH.out.news hb) (u8_ones nb G) (by omega) hb.size ?_; intro v4 w4 hown4 hg4))
        have hF5 := Lib.hid (show Fl w4 w.heap.size v4 (N) (catF na F G) by have h := hown4; rw [cat_cells, hNH.out] at h; exact h)
        have hb5 := hb.trans (grown_belowP hg4 (fun q e => hge q e) hb.size)
        clear hown4 hg4 hF hge
        go_wp2_with fail
        go_roundw
        case rel => exact ⟨2, by omega, rfl, by simpa using hF5, hb5⟩
        case measure => simp [intOf]
        | 2, _ =>
        rw [if_neg (by decide), if_neg (by decide)] at hF
        go_wp2_with fail
        go_ret
        exact ⟨_, rfl, by rw [hNH.out]; exact hF.out, hb⟩
end Go.Proofs.Ytionaenmjndncab
