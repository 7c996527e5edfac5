/- Walks: the check of matrices on both sides. -/
import Derived.Test.YtnkkkgaojhkniabMsA
import Derived.Test.YtnkkkgaojhkniabRws
import Derived.Test.YtnkkkgaojhkniabRegs
set_option linter.unusedVariables false
set_option linter.unusedSimpArgs false
namespace Go.Proofs.Ytnkkkgaojhkniab
open Go.RowKit

/-- A row of a matrix that is one. -/
def RowGood (p n : Int) (F : Nat → Int) (i : Nat) : Prop := RowOk p n (fun j => F (i * 6 + j)) ∧ (n ≤ (i : Int) → ∀ j, j < 6 → F (i * 6 + j) = 0)
def SqOk (p n : Int) (F : Nat → Int) : Prop := Pr p ∧ (1 ≤ n ∧ n ≤ 6) ∧ ∀ i, i < 6 → RowGood p n F i
/-- Row k holds zeros only, as a test. -/
def Z6 (F : Nat → Int) (k : Nat) (e : Bool) : Prop := (∀ j, j < 6 → F (k * 6 + j) = 0) ↔ e = true
theorem dec_zero6 {F : Nat → Int} {k : Nat} {e : Bool} (he : Z6 F k e) {inst : Decidable (∀ i, i < 6 → F (k * 6 + i) = 0)} : @decide (∀ i, i < 6 → F (k * 6 + i) = 0) inst = e := by
  cases e
  · exact decide_eq_false fun h => by have := he.1 h; cases this
  · exact decide_eq_true (he.2 rfl)

set_option maxRecDepth 20000 in
set_option maxHeartbeats 2000000 in
theorem l05Is_any (p n : Int) (F : Nat → Int) (b : Bool) (w : World) (hF : By F) (hb : SqOk p n F ↔ b = true) :
    Calls Try.prog 27 #[.int .i64 p, .int .i64 n, .agg (u8s 36 F)] w fun e w' => e = .returned (.bool b) ∧ Below w.heap.size w w' := by
  have hFH := Lib.hid hF
  have hbH := Lib.hid hb
  have hA := Blk.new w (u8s 36 F) 30
  have hb0 := below_new w (.cells (u8s 36 F) 30)
  clear hF hb
  obtain ⟨q, hq⟩ : ∃ q, decide (Pr p) = q := ⟨_, rfl⟩
  obtain ⟨t, ht⟩ : ∃ t, decide (1 ≤ n ∧ n ≤ 6) = t := ⟨_, rfl⟩
  have hqH := Lib.hid hq
  have htH := Lib.hid ht
  clear hq ht
  go_enter Try.func27, Try.ntmps27
  go_wp2_with fail
  go_loopw [7] (fun i wr => ∃ k : Nat, k ≤ 6 ∧ i = .int .i64 k ∧ (∀ j, j < k → RowGood p n F j) ∧ Blk wr w.heap.size (u8s 36 F) 30 ∧ Below w.heap.size w wr) (fun i _ => 6 - (intOf i).toNat)
  case atStart => exact ⟨0, by omega, rfl, fun j hj => absurd hj (by omega), hA, hb0⟩
  case round =>
    clear hb0 hA
    obtain ⟨k, hk, rfl, hall, hA, hb⟩ := hrel
    have hallH := Lib.hid hall
    clear hall
    by_cases hlt : k < 6
    · obtain ⟨r, hr⟩ := dec_true (RowOk p n (fun j => F (k * 6 + j)))
      obtain ⟨e, he⟩ : ∃ e, Z6 F k e := dec_true _
      have hrw := Lib.hid (fun w => l05Row_any p n (fun j => F (k * 6 + j)) w (fun i => hFH.out _) r hr)
      have hrH := Lib.hid hr
      have heH := Lib.hid he
      clear hr he
      have hc : ∀ {wr : World}, Blk wr w.heap.size (u8s 36 F) 30 → ∀ j, j < 6 → wr.cell? ⟨w.heap.size, k * 6 + j, none⟩ = some (.int .u8 (F (k * 6 + j))) := fun hA j hj => by rw [hA.cell, u8s_get _ (by omega)]
      have hcH := Lib.hid (hc hA)
      have hcc : Hid (∀ wr, Blk wr w.heap.size (u8s 36 F) 30 → ∀ j, j < 6 → wr.cell? ⟨w.heap.size, k * 6 + j, none⟩ = some (.int .u8 (F (k * 6 + j)))) := Lib.hid (fun wr => hc)
      clear hc
      go_wp2_with ((with_reducible refine wpl_guard ?_); first | (refine wpl_load_mid rfl 28 _ rfl _ (k * 6) rfl 6 _ _ hcH.out uRow sRow ?_))
      refine (hrw.out _).mono ?_
      rintro e9 w1 ⟨rfl, hn⟩
      replace hA := hA.keep hn
      replace hb := below_step hb hn
      replace hcH := Lib.hid (hcc.out _ hA)
      clear hn hcc
      cases r
      · have hbf : b = false := by
          cases b
          · rfl
          · exact absurd ((hbH.out.2 rfl).2.2 k hlt) (fun h => by have := hrH.out.1 h.1; cases this)
        subst hbf
        go_wp2_with ((with_reducible refine wpl_guard ?_); first | (refine wpl_load_mid rfl 28 _ rfl _ (k * 6) rfl 6 _ _ hcH.out uRow sRow ?_) | (refine wpl_build_zero rfl 28 6 5 rfl _ uRow sByte zRow ?_) | (refine wpl_neq_arr rfl 28 _ _ _ rfl 6 .u8 (fun j => F (k * 6 + j)) (fun _ => 0) 5 rfl rfl uRow uByte sByte gRow _ (dec_zero6 heH.out) ?_))
        go_ret
        exact ⟨rfl, hb⟩
      · by_cases hnk : n ≤ (k : Int)
        · cases e
          · have hbf : b = false := by
              cases b
              · rfl
              · exact absurd ((hbH.out.2 rfl).2.2 k hlt) (fun h => by have := heH.out.1 (h.2 hnk); cases this)
            subst hbf
            go_wp2_with ((with_reducible refine wpl_guard ?_); first | (refine wpl_load_mid rfl 28 _ rfl _ (k * 6) rfl 6 _ _ hcH.out uRow sRow ?_) | (refine wpl_build_zero rfl 28 6 5 rfl _ uRow sByte zRow ?_) | (refine wpl_neq_arr rfl 28 _ _ _ rfl 6 .u8 (fun j => F (k * 6 + j)) (fun _ => 0) 5 rfl rfl uRow uByte sByte gRow _ (dec_zero6 heH.out) ?_))
            go_ret
            exact ⟨rfl, hb⟩
          · go_wp2_with ((with_reducible refine wpl_guard ?_); first | (refine wpl_load_mid rfl 28 _ rfl _ (k * 6) rfl 6 _ _ hcH.out uRow sRow ?_) | (refine wpl_build_zero rfl 28 6 5 rfl _ uRow sByte zRow ?_) | (refine wpl_neq_arr rfl 28 _ _ _ rfl 6 .u8 (fun j => F (k * 6 + j)) (fun _ => 0) 5 rfl rfl uRow uByte sByte gRow _ (dec_zero6 heH.out) ?_))
            go_roundw
            case rel => exact ⟨k + 1, by omega, by go_num, fun j hj => by
              by_cases e1 : j = k
              · subst e1; exact ⟨hrH.out.2 (by first | rfl | trivial), fun _ => heH.out.2 (by first | rfl | trivial)⟩
              · exact hallH.out j (by omega), hA, hb⟩
            case measure => simp [intOf] <;> omega
        · have hnk2 : decide (n ≤ (k : Int)) = false := decide_eq_false hnk
          go_wp2_with ((with_reducible refine wpl_guard ?_); first | (refine wpl_load_mid rfl 28 _ rfl _ (k * 6) rfl 6 _ _ hcH.out uRow sRow ?_) | (refine wpl_build_zero rfl 28 6 5 rfl _ uRow sByte zRow ?_) | (refine wpl_neq_arr rfl 28 _ _ _ rfl 6 .u8 (fun j => F (k * 6 + j)) (fun _ => 0) 5 rfl rfl uRow uByte sByte gRow _ (dec_zero6 heH.out) ?_))
          go_roundw
          case rel => exact ⟨k + 1, by omega, by go_num, fun j hj => by
            by_cases e1 : j = k
            · subst e1; exact ⟨hrH.out.2 (by first | rfl | trivial), fun h => absurd h (by omega)⟩
            · exact hallH.out j (by omega), hA, hb⟩
          case measure => simp [intOf] <;> omega
    · obtain rfl : k = 6 := by omega
      go_wp2_with fail
      refine (l01Prime_any p _ q hqH.out).mono ?_
      rintro e w9 ⟨rfl, rfl⟩
      cases q
      · have hbf : b = false := by
          cases b
          · rfl
          · exact absurd (hbH.out.2 rfl).1 (of_decide_eq_false hqH.out)
        subst hbf
        go_wp2_with fail
        go_ret
        exact ⟨rfl, hb⟩
      · go_wp2_with fail
        refine (l01In_any _ _ _ _ t htH.out).mono ?_
        rintro e w9 ⟨rfl, rfl⟩
        have hbt : b = t := by
          cases t
          · cases b
            · rfl
            · exact absurd (hbH.out.2 rfl).2.1 (of_decide_eq_false htH.out)
          · exact hbH.out.1 ⟨of_decide_eq_true hqH.out, of_decide_eq_true htH.out, hallH.out⟩
        subst hbt
        go_wp2_with fail
        go_ret
        exact ⟨rfl, hb⟩

set_option maxRecDepth 20000 in
set_option maxHeartbeats 2000000 in
theorem implIsSquare_any (p n : Int) (F : Nat → Int) (b : Bool) (w : World) (hF : By F) (hb : SqOk p n F ↔ b = true) :
    Calls Try.prog 30 #[.int .i64 p, .int .i64 n, .agg (u8s 36 F)] w fun e w' => e = .returned (.bool b) ∧ Below w.heap.size w w' := by
  have hFH := Lib.hid hF
  have hbH := Lib.hid hb
  have hA := Blk.new w (u8s 36 F) 30
  have hb0 := below_new w (.cells (u8s 36 F) 30)
  clear hF hb
  obtain ⟨q, hq⟩ : ∃ q, decide (Pr p) = q := ⟨_, rfl⟩
  obtain ⟨t, ht⟩ : ∃ t, decide (1 ≤ n ∧ n ≤ 6) = t := ⟨_, rfl⟩
  have hqH := Lib.hid hq
  have htH := Lib.hid ht
  clear hq ht
  go_enter Try.func30, Try.ntmps30
  go_wp2_with fail
  refine (isPrime_any p _ q hqH.out).mono ?_
  rintro e u1 ⟨rfl, rfl⟩
  cases q
  · have hbf : b = false := by
      cases b
      · rfl
      · exact absurd (hbH.out.2 rfl).1 (of_decide_eq_false hqH.out)
    subst hbf
    go_wp2_with fail
    go_ret
    exact ⟨rfl, hb0⟩
  go_wp2_with fail
  refine (within_any _ _ _ _ t htH.out).mono ?_
  rintro e u2 ⟨rfl, rfl⟩
  cases t
  · have hbf : b = false := by
      cases b
      · rfl
      · exact absurd (hbH.out.2 rfl).2.1 (of_decide_eq_false htH.out)
    subst hbf
    go_wp2_with fail
    go_ret
    exact ⟨rfl, hb0⟩
  go_wp2_with ((with_reducible refine wpl_guard ?_); first | (refine wpl_load_arr rfl 30 _ rfl _ rfl _ _ hA _ _ uSquare sSquare ?_))
  go_loopw [18] (fun i wr => ∃ k : Nat, k ≤ 6 ∧ i = .int .i64 k ∧ (∀ j, j < k → RowGood p n F j) ∧ Below w.heap.size w wr) (fun i _ => 6 - (intOf i).toNat)
  case atStart => exact ⟨0, by omega, rfl, fun j hj => absurd hj (by omega), hb0⟩
  case round =>
    clear hb0 hA
    obtain ⟨k, hk, rfl, hall, hb⟩ := hrel
    have hallH := Lib.hid hall
    clear hall
    by_cases hlt : k < 6
    · obtain ⟨r, hr⟩ := dec_true (RowOk p n (fun j => F (k * 6 + j)))
      obtain ⟨e, he⟩ : ∃ e, Z6 F k e := dec_true _
      have hrw := Lib.hid (fun w => isRow_any p n (fun j => F (k * 6 + j)) w (fun i => hFH.out _) r hr)
      have hrH := Lib.hid hr
      have heH := Lib.hid he
      clear hr he
      go_upto_region 6 with ((with_reducible refine wpl_guard ?_); first | (refine wpl_index_part rfl 30 _ _ rfl 6 28 6 F 5 rfl .i64 k rfl hlt uSquare uRow sRow ?_) | (refine wpl_alloc_arr rfl 28 rfl _ zRow ?_) | (refine wpl_store_new rfl 28 _ _ rfl _ rfl rfl _ rfl sRow (by simp only [u8s_size]) (u8s_oneCell _ _) ?_))
      have hV := Blk.new wr (u8s 6 fun j => F (k * 6 + j)) 28
      replace hb := below_step hb (below_new wr (.cells (u8s 6 fun j => F (k * 6 + j)) 28))
      go_wp2_with ((with_reducible refine wpl_guard ?_); first | (refine wpl_load_arr rfl 28 _ rfl _ rfl _ _ hV _ _ uRow sRow ?_))
      refine (hrw.out _).mono ?_
      rintro e9 w1 ⟨rfl, hn⟩
      replace hV := hV.keep hn
      replace hb := below_step hb hn
      clear hn
      cases r
      · have hbf : b = false := by
          cases b
          · rfl
          · exact absurd ((hbH.out.2 rfl).2.2 k hlt) (fun h => by have := hrH.out.1 h.1; cases this)
        subst hbf
        go_wp2_with ((with_reducible refine wpl_guard ?_); first | (refine wpl_load_arr rfl 28 _ rfl _ rfl _ _ hV _ _ uRow sRow ?_) | (refine wpl_build_zero rfl 28 6 5 rfl _ uRow sByte zRow ?_) | (refine wpl_neq_arr rfl 28 _ _ _ rfl 6 .u8 (fun j => F (k * 6 + j)) (fun _ => 0) 5 rfl rfl uRow uByte sByte gRow _ (dec_zero6 heH.out) ?_))
        go_ret
        exact ⟨rfl, hb⟩
      · by_cases hnk : n ≤ (k : Int)
        · cases e
          · have hbf : b = false := by
              cases b
              · rfl
              · exact absurd ((hbH.out.2 rfl).2.2 k hlt) (fun h => by have := heH.out.1 (h.2 hnk); cases this)
            subst hbf
            go_wp2_with ((with_reducible refine wpl_guard ?_); first | (refine wpl_load_arr rfl 28 _ rfl _ rfl _ _ hV _ _ uRow sRow ?_) | (refine wpl_build_zero rfl 28 6 5 rfl _ uRow sByte zRow ?_) | (refine wpl_neq_arr rfl 28 _ _ _ rfl 6 .u8 (fun j => F (k * 6 + j)) (fun _ => 0) 5 rfl rfl uRow uByte sByte gRow _ (dec_zero6 heH.out) ?_))
            go_ret
            exact ⟨rfl, hb⟩
          · go_wp2_with ((with_reducible refine wpl_guard ?_); first | (refine wpl_load_arr rfl 28 _ rfl _ rfl _ _ hV _ _ uRow sRow ?_) | (refine wpl_build_zero rfl 28 6 5 rfl _ uRow sByte zRow ?_) | (refine wpl_neq_arr rfl 28 _ _ _ rfl 6 .u8 (fun j => F (k * 6 + j)) (fun _ => 0) 5 rfl rfl uRow uByte sByte gRow _ (dec_zero6 heH.out) ?_))
            go_roundw
            case rel => exact ⟨k + 1, by omega, by go_num, fun j hj => by
              by_cases e1 : j = k
              · subst e1; exact ⟨hrH.out.2 (by first | rfl | trivial), fun _ => heH.out.2 (by first | rfl | trivial)⟩
              · exact hallH.out j (by omega), hb⟩
            case measure => simp [intOf] <;> omega
        · have hnk2 : decide (n ≤ (k : Int)) = false := decide_eq_false hnk
          go_wp2_with ((with_reducible refine wpl_guard ?_); first | (refine wpl_load_arr rfl 28 _ rfl _ rfl _ _ hV _ _ uRow sRow ?_) | (refine wpl_build_zero rfl 28 6 5 rfl _ uRow sByte zRow ?_) | (refine wpl_neq_arr rfl 28 _ _ _ rfl 6 .u8 (fun j => F (k * 6 + j)) (fun _ => 0) 5 rfl rfl uRow uByte sByte gRow _ (dec_zero6 heH.out) ?_))
          go_roundw
          case rel => exact ⟨k + 1, by omega, by go_num, fun j hj => by
            by_cases e1 : j = k
            · subst e1; exact ⟨hrH.out.2 (by first | rfl | trivial), fun h => absurd h (by omega)⟩
            · exact hallH.out j (by omega), hb⟩
          case measure => simp [intOf] <;> omega
    · obtain rfl : k = 6 := by omega
      have hbt : b = true := hbH.out.1 ⟨of_decide_eq_true hqH.out, of_decide_eq_true htH.out, hallH.out⟩
      subst hbt
      go_wp2_with fail
      go_ret
      exact ⟨rfl, hb⟩

end Go.Proofs.Ytnkkkgaojhkniab
