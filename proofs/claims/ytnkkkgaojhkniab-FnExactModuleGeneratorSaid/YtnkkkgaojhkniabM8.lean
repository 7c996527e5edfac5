/- Walks: matrices as slices of rows; what they lead vectors to. -/
import Derived.Test.YtnkkkgaojhkniabM7
set_option linter.unusedVariables false
set_option linter.unusedSimpArgs false
namespace Go.Proofs.Ytnkkkgaojhkniab
open Go.RowKit
theorem owns_below6 {B : Nat} {e : TypeId} {k : Nat} {v : Value} {n : Nat} {xs : List Value} {w w' : World} (h : w.ownsRow B e k v n xs) (hb : Below w.heap.size w w') : w'.ownsRow B e k v n xs := by
  refine ⟨h.1, ?_⟩
  rcases h.2 with h1 | ⟨g, cap, cur, h1, h2, h3, h4⟩
  · exact .inl h1
  · exact .inr ⟨g, cap, cur, h1, h2, by rw [hb.block g (Array.getElem?_eq_some_iff.1 h3).1]; exact h3, h4⟩
theorem owns_mono6 {B B' : Nat} {e : TypeId} {k : Nat} {v : Value} {n : Nat} {xs : List Value} {w : World} (h : w.ownsRow B e k v n xs) (hb : B' ≤ B) : w.ownsRow B' e k v n xs := by
  refine ⟨h.1, ?_⟩
  rcases h.2 with h1 | ⟨g, cap, cur, h1, h2, h3⟩
  · exact .inl h1
  · exact .inr ⟨g, cap, cur, h1, by omega, h3⟩

theorem iRow : (Try.prog.info? 55).map (fun i => (i.zero, i.size, i.bytes)) = some (some (.slice none 0 0), 1, 24) := by kernel_rfl

/-- Rows that have been laid. -/
def RowsOk (w : World) (R : Nat → Value) (k : Nat) (M : Nat → List Int) : Prop := ∀ j, j < k → IsRow w (R j) (M j) ∧ RowT w (R j)
theorem RowsOk.below {w w' : World} {R : Nat → Value} {k : Nat} {M : Nat → List Int} (h : RowsOk w R k M) (hb : Below w.heap.size w w') : RowsOk w' R k M := fun j hj => ⟨(h j hj).1.below hb, (h j hj).2.below hb⟩
def snocR (R : Nat → Value) (k : Nat) (r : Value) : Nat → Value := fun j => if j = k then r else R j
theorem snocR_list (R : Nat → Value) (k : Nat) (r : Value) : (List.range (k + 1)).map (snocR R k r) = (List.range k).map R ++ [r] := by
  rw [List.range_succ, List.map_append]
  congr 1
  · exact List.map_congr_left fun j hj => if_neg (by have := List.mem_range.1 hj; omega)
  · exact congrArg (fun x => [x]) (if_pos rfl)
theorem RowsOk.snoc {w : World} {R : Nat → Value} {k : Nat} {M : Nat → List Int} {r : Value} (h : RowsOk w R k M) (h1 : IsRow w r (M k)) (h2 : RowT w r) : RowsOk w (snocR R k r) (k + 1) M := fun j hj => by
  unfold snocR
  by_cases e : j = k
  · subst e; simp only [if_true]; exact ⟨h1, h2⟩
  · simp only [e, if_false]; exact h j (by omega)
theorem RowsOk.grown {w w' : World} {R : Nat → Value} {k n base : Nat} {M : Nat → List Int} {v : Value} {vs : List Value} (h : RowsOk w R k M) (ho : w.ownsRow base 55 1 v n vs) (hg : w.grownBy w' v.ownBlock) : RowsOk w' R k M :=
  fun j hj => ⟨(h j hj).1.grown hg (rows_ne ho (h j hj).2), (h j hj).2.grown hg (rows_ne ho (h j hj).2)⟩
theorem grown_below {B base n : Nat} {e : TypeId} {w w' : World} {v : Value} {vs : List Value} (ho : w.ownsRow base e 1 v n vs) (hg : w.grownBy w' v.ownBlock) (hB : B ≤ base) (hs : B ≤ w.heap.size) : Below B w w' :=
  ⟨hg.os, hg.tape, hg.output, hg.size, fun k hk => hg.block k (by omega) (fun e => by have := (ho.lt k e.symm).1; omega)⟩
theorem IsRow.slice {w : World} {v : Value} {xs : List Int} (h : IsRow w v xs) : ∃ a n c, v = .slice a n c := by
  obtain ⟨oa, cap, rfl, _⟩ := h; exact ⟨_, _, _, rfl⟩
theorem rv_one {w : World} {v : Value} {xs : List Int} (h : IsRow w v xs) : v.oneCell' = true := by
  obtain ⟨oa, cap, rfl, _⟩ := h; rfl

set_option maxRecDepth 20000 in
set_option maxHeartbeats 2000000 in
theorem matrix_any (F : Nat → Int) (n : Nat) (w : World) (hF : By F) (hn : n ≤ 6) :
    Calls Try.prog 32 #[.int .i64 n, .agg (u8s 36 F)] w fun e w' => ∃ v, e = .returned v ∧ IsRows w' v n (fun j => mkp 6 fun c => F (j * 6 + c)) ∧ Below w.heap.size w w' := by
  have hFH := Lib.hid hF
  have hA := Blk.new w (u8s 36 F) 30
  have hb0 := below_new w (.cells (u8s 36 F) 30)
  clear hF
  have hnI : (n : Int) ≤ 6 := by omega
  go_enter Try.func32, Try.ntmps32
  go_wp2_with fail
  go_loopw [5, 11] (fun vo i wr => ∃ (k : Nat) (R : Nat → Value), k ≤ n ∧ i = .int .i64 k ∧ wr.ownsRow (w.heap.size + 1) 55 1 vo k ((List.range k).map R) ∧ RowsOk wr R k (fun j => mkp 6 fun c => F (j * 6 + c)) ∧ Blk wr w.heap.size (u8s 36 F) 30 ∧ Below w.heap.size w wr) (fun _ i _ => n - (intOf i).toNat)
  case atStart => exact ⟨0, fun _ => .slice none 0 0, by omega, rfl, World.ownsRow_nil _ _ _ _, fun j hj => absurd hj (by omega), hA, hb0⟩
  case round =>
    clear hA hb0
    obtain ⟨k, R, hk, rfl, hown, hR, hA, hb⟩ := hrel
    have hownH := Lib.hid hown
    have hRH := Lib.hid hR
    clear hown hR
    by_cases hlt : k < n
    · have hk6 : (k : Int) < 6 := by omega
      have hltI : (k : Int) < (n : Int) := by omega
      have hc : ∀ j, j < 6 → wr.cell? ⟨w.heap.size, k * 6 + j, none⟩ = some (.int .u8 (F (k * 6 + j))) := fun j hj => by rw [hA.cell, u8s_get _ (by omega)]
      have hcH := Lib.hid hc
      clear hc
      go_upto_region 5 with ((with_reducible refine wpl_guard ?_); first | (refine wpl_load_mid rfl 28 _ rfl _ (k * 6) rfl 6 _ _ hcH.out uRow sRow ?_) | (refine wpl_alloc_arr rfl 28 rfl _ zRow ?_) | (refine wpl_store_new rfl 28 _ _ rfl _ rfl (by first | rfl | simp) _ rfl sRow (by show _ = (u8s 6 fun j => F (k * 6 + j)).size; simp only [u8s_size]) (u8s_oneCell _ _) ?_))
      have hV := Blk.new wr (u8s 6 fun j => F (k * 6 + j)) 28
      have hn0 := below_new wr (.cells (u8s 6 fun j => F (k * 6 + j)) 28)
      replace hA := hA.keep hn0
      replace hb := below_step hb hn0
      replace hownH := Lib.hid (owns_below6 hownH.out hn0)
      replace hRH := Lib.hid (hRH.out.below hn0)
      clear hn0 hcH
      go_wp2_with ((with_reducible refine wpl_guard ?_); first | (refine wpl_load_arr rfl 28 _ rfl _ rfl _ _ hV _ _ uRow sRow ?_))
      refine (vector_any (fun j => F (k * 6 + j)) _ fun i _ => hFH.out _).mono ?_
      rintro e w1 ⟨rv, rfl, hr, ht, hn⟩
      obtain ⟨ra, rn, rc, rfl⟩ := hr.slice
      replace hA := hA.keep hn
      replace hb := below_step hb hn
      have hown2 := (owns_below6 hownH.out hn).alloc (.cells #[.slice ra rn rc] 55)
      have hn1 := below_new w1 (.cells #[.slice ra rn rc] 55)
      have hR3 := (hRH.out.below hn).snoc (r := .slice ra rn rc) hr ht
      have hsz := hA.lt
      replace hRH := Lib.hid (hR3.below hn1)
      have hone := rv_one hr
      have honeH := Lib.hid hone
      replace hownH := Lib.hid hown2
      replace hA := hA.keep hn1
      replace hb := below_step hb hn1
      clear hV hr ht hn hown2 hn1 hR3 hone
      go_wp2_with (first | (at_builtin; refine wpl_append_grow rfl _ _ 49 rfl (w.heap.size + 1) 55 _ 1 24 Try.underlying49 iRow rfl (by decide) (by decide) _ k _ rfl hownH.out ⟨w1.heap.size, 0, none⟩ 1 1 rfl [.slice ra rn rc] rfl (fun j u h => by rw [addr_add]; exact one_new w1 _ 55 j u h) (by intro u hu; rw [List.mem_singleton] at hu; subst hu; exact honeH.out) (by omega) (by simp only [size_alloc]; omega) ?_; intro v' w2 hown3 hg2; rw [← snocR_list] at hown3; have hown3H := Lib.hid hown3; clear hown3))
      replace hb := hb.trans (grown_below hownH.out hg2 (by omega) (by simp only [size_alloc]; omega))
      have hA2 := hA.grown hg2 (fun e => by have := (hownH.out.lt _ e.symm).1; omega)
      have hR2 := hRH.out.grown hownH.out hg2
      clear hA hg2 hRH hownH
      have hRH := Lib.hid hR2
      clear hR2
      go_roundw
      case rel => exact ⟨k + 1, snocR R k (.slice ra rn rc), by omega, by go_num, hown3H.out, hRH.out, hA2, hb⟩
      case measure => simp [intOf] <;> omega
    · obtain rfl : k = n := by omega
      have hend := Lib.hid (IsRows_owned hownH.out fun i hi => (hRH.out i hi).1)
      go_wp2_with fail
      go_ret
      exact ⟨_, rfl, hend.out, hb⟩

set_option maxRecDepth 20000 in
set_option maxHeartbeats 2000000 in
theorem leads_any (vs vx : Value) (p : Int) (n : Nat) (F : Nat → Int) (M : Nat → List Int) (xs : List Int) (w : World) (hM : Mx p n F M) (hs : IsRows w vs n M) (hx : IsRow w vx xs) (hpx : Po p xs) (hxn : xs.length ≤ n) :
    Calls Try.prog 82 #[.int .i64 p, vs, vx] w fun e w' => ∃ v, e = .returned v ∧ IsRow w' v (led p M xs) ∧ Below w.heap.size w w' := by
  have hp2 := hM.pr.pos.1
  have hst : ∀ k, ∀ va vb w, IsRow w va (ledN p M xs k) → IsRow w vb (M k) → Calls Try.prog 61 #[.int .i64 p, va, vb, .int .i64 (cf xs k)] w fun e w' => ∃ v, e = .returned v ∧ IsRow w' v (ledN p M xs (k + 1)) ∧ Below w.heap.size w w' := fun k va vb w h1 h2 =>
    combine_any va vb _ _ p _ w hM.pr h1 h2 (ledN_Po hp2 M xs k).md (hM.po k).md (by have := hpx.md k; omega) (by have := hpx.md k; have := hM.pr.pos; omega) (by have := ledN_len (p := p) hM.le xs k; have := hM.n6; omega) (by have := hM.le k; have := hM.n6; omega)
  have hstH := Lib.hid hst
  have hn6 := hM.n6
  obtain ⟨R, os, cs, rfl, hles, hcs, hRc, hRr⟩ := hs
  obtain ⟨oa, ca, rfl, hlea, hcap, hca⟩ := hx
  have hRcH := Lib.hid hRc
  have hRrH := Lib.hid hRr
  have hcaH := Lib.hid hca
  unfold maxLen at hcap hcs
  clear hM hst hRc hRr hca hp2 hpx
  unfold led
  generalize xs.length = L at *
  go_enter Try.func82, Try.ntmps82
  go_wp2_with fail
  go_loopw [7, 8, 9, 12] (fun vo _ _ i wr => ∃ k : Nat, k ≤ L ∧ i = .int .i64 k ∧ IsRow wr vo (ledN p M xs k) ∧ Below w.heap.size w wr) (fun _ _ _ i _ => L - (intOf i).toNat)
  case atStart => exact ⟨0, by omega, rfl, IsRow_nil _, Below.refl _ _⟩
  case round =>
    obtain ⟨k, hk, rfl, ho, hb⟩ := hrel
    have hoH := Lib.hid ho
    clear ho
    by_cases hlt : k < L
    · obtain ⟨b1, o1, rfl, hc1⟩ := hcaH.out (by omega)
      obtain ⟨b2, o2, rfl, hc2⟩ := hRcH.out (by omega)
      have hc0 := hc1 k hlt
      have hc3 := hc2 k (by omega)
      have c1 : wr.cell? ⟨b1, o1 + k, none⟩ = some (.int .i64 (cf xs k)) := by rw [hb.cell (block_lt_of_cell hc0)]; exact hc0
      have c2 : wr.cell? ⟨b2, o2 + k, none⟩ = some (R k) := by rw [hb.cell (block_lt_of_cell hc3)]; exact hc3
      have hrk := (hRrH.out k (by omega)).below hb
      have hrkH := Lib.hid hrk
      have hltN : (k : Int) < (n : Int) := by omega
      clear hc1 hc0 hc2 hc3 hrk
      go_wp2_with fail
      refine (hstH.out k _ _ _ hoH.out hrkH.out).mono ?_
      rintro e w1 ⟨v1, rfl, hr, hn⟩
      have hrH := Lib.hid hr
      replace hb := below_step hb hn
      clear hr hn
      go_wp2_with fail
      go_roundw
      case rel => exact ⟨k + 1, by omega, by go_num, hrH.out, hb⟩
      case measure => simp [intOf] <;> omega
    · obtain rfl : k = L := by omega
      go_wp2_with fail
      go_ret
      exact ⟨_, rfl, hoH.out, hb⟩

set_option maxRecDepth 20000 in
set_option maxHeartbeats 2000000 in
theorem asRow_any (vx : Value) (xs : List Int) (w : World) (hx : IsRow w vx xs) (hr : By (cf xs)) (hl : xs.length ≤ 6) :
    Calls Try.prog 48 #[vx] w fun e w' => e = .returned (.agg (u8s 6 (cf xs))) ∧ Below w.heap.size w w' := by
  obtain ⟨oa, ca, rfl, hlea, hcap, hca⟩ := hx
  have hrng := Lib.hid hr
  have hcaH := Lib.hid hca
  unfold maxLen at hcap
  have hend : (fun j => if j < xs.length then cf xs j else 0) = cf xs := by
    funext j
    by_cases h : j < xs.length
    · rw [if_pos h]
    · rw [if_neg h, cf_ge _ _ (by omega)]
  have hendH := Lib.hid hend
  clear hr hca hend
  generalize xs.length = L at *
  obtain ⟨hb, hZ, hN⟩ := boxes2 w (u8s 6 fun _ => 0) (u8s 6 fun _ => 0) 28 28
  go_enter Try.func48, Try.ntmps48
  go_wp2_with ((with_reducible refine wpl_guard ?_); first | (refine wpl_alloc_arr rfl 28 rfl _ zRow ?_))
  go_loopw [4, 5, 8] (fun _ _ i wr => ∃ k : Nat, k ≤ L ∧ i = .int .i64 k ∧ Blk wr w.heap.size (u8s 6 fun _ => 0) 28 ∧ Blk wr (w.heap.size + 1) (u8s 6 fun j => if j < k then cf xs j else 0) 28 ∧ Below w.heap.size w wr) (fun _ _ i _ => L - (intOf i).toNat)
  case atStart => exact ⟨0, by omega, rfl, hZ, hN.cast (u8s_ext fun j _ => by simp), hb⟩
  case round =>
    clear hZ hN hb
    obtain ⟨k, hk, rfl, hZ, hN, hb⟩ := hrel
    by_cases hlt : k < L
    · obtain ⟨b1, o1, rfl, hc1⟩ := hcaH.out (by omega)
      have hc0 := hc1 k hlt
      have c1 : wr.cell? ⟨b1, o1 + k, none⟩ = some (.int .i64 (cf xs k)) := by rw [hb.cell (block_lt_of_cell hc0)]; exact hc0
      have c2 := hN.free k
      have c3 : wr.cell? ⟨w.heap.size + 1, k, none⟩ = some (.int .u8 0) := by rw [hN.cell, u8s_get _ (by omega)]; simp
      have hr := hrng.out k
      have hr0 := hr.1
      have hr1 := hr.2
      have hk6 : (k : Int) < 6 := by omega
      clear hc1 hc0 hr
      go_wp2_with fail
      go_roundw
      case rel =>
        refine ⟨k + 1, by omega, by go_num, hZ.set_other _ _ (by simp), ?_, hb.setCell (by simp) _⟩
        refine (hN.set k _).cast ?_
        rw [u8s_set]; apply u8s_ext; intro j _
        by_cases e1 : j = k
        · subst e1; simp; try omega
        · by_cases e2 : j < k
          · simp [e1, e2, show j < k + 1 by omega]
          · simp [e1, e2, show ¬ j < k + 1 by omega]
      case measure => simp [intOf] <;> omega
    · obtain rfl : k = L := by omega
      rw [hendH.out] at hN
      go_wp2_with ((with_reducible refine wpl_guard ?_); first | (refine wpl_load_arr rfl 28 _ rfl _ rfl _ _ hN _ _ uRow sRow ?_) | (refine wpl_store_arr rfl 28 _ _ rfl _ rfl _ rfl _ _ hZ sRow (by simp only [u8s_size]) (u8s_oneCell _ _) ?_))
      exact bodyPost_ret (res_c rfl rfl (hZ.setRow_same (cs := u8s 6 (cf xs))) uRow sRow) rfl ⟨rfl, below_setRow hb (by omega) _⟩
end Go.Proofs.Ytnkkkgaojhkniab
