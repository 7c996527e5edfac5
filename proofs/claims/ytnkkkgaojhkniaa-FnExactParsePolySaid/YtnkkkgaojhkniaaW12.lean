/- Walks: ParsePoly on both sides. -/
import Derived.Test.YtnkkkgaojhkniaaW11
import Derived.Test.YtnkkkgaojhkniaaRegs
import Derived.Deep.Cut
set_option linter.unusedVariables false
set_option linter.unusedSimpArgs false
namespace Go.Proofs.Ytnkkkgaojhkniaa
open Go.RowKit

/-- The byte at a place of a text, as a number; 0 behind the end. -/
def bya (s : ByteArray) (i : Nat) : Int := ((s.data.toList.getD i 0).toNat : Int)
theorem bya_range (s : ByteArray) (i : Nat) : 0 ≤ bya s i ∧ bya s i ≤ 255 := by
  unfold bya
  have := (s.data.toList.getD i 0).toNat_lt
  omega
/-- The digit that a text tells for T^j. -/
def dig (s : ByteArray) (j : Nat) : Int := if j < s.size then (bya s (s.size - 1 - j) - 48) % 256 else 0
theorem dig_By (s : ByteArray) : By (dig s) := fun i => by
  unfold dig; split <;> omega
/-- The text tells a polynomial. -/
def Tells (p : Int) (s : ByteArray) : Prop := s.size ≤ 64 ∧ (∀ i : Nat, i < 64 → dig s i < p) ∧ txt (mkp 64 (dig s)) = s
theorem txt_size_pos (xs : List Int) : 0 < (txt xs).size := by
  unfold txt
  split
  · rw [strOfNums_size]; simp
  · rename_i h
    rw [strOfNums_size]
    unfold digs
    rw [List.length_map, List.length_reverse]
    exact List.length_pos_iff.2 h

section
variable {P : Program} {ops : Array Oper} {rest : List Oper} {o : Oper} {a : Act} {w : World} {Q : Exit → Act → World → Prop}
/-- A byte of a text. -/
theorem wpl_index_str (hw : Region.wanted o (yielded ops a.tmps) = true) (t : TypeId) (x ix : Operand) (hop : o.op = .index t x ix) (s : ByteArray) (hx : a.eval x = .string s)
    (k : IntKind) (i : Nat) (hi : a.eval ix = .int k (i : Int)) (hin : i < s.size) (ht : P.underlying t = some .string)
    (h : wpList P ops Q rest (a.put o.dst (.int .u8 (bya s i))) w) : wpList P ops Q (o :: rest) a w := by
  refine wpl_wanted hw fun K hK => ?_
  have hK := hK _ _ h
  have e2 : ((s[i]).toNat : Int) = bya s i := by
    unfold bya
    have h1 : i < s.data.toList.length := by simpa using hin
    rw [List.getD_eq_getElem?_getD, List.getElem?_eq_getElem h1]
    rfl
  unfold Oper.wp execOp
  simp only [hop, hx, hi, Sem.run_bind, run_index_string _ t s k (i : Int) ht, Int.toNat_natCast]
  rw [dif_pos (show (0 : Int) ≤ (i : Int) ∧ (i : Int) < (s.size : Int) by omega)]
  simp only [Result.andThen_ok, Sem.run_pure, Int.toNat_natCast, e2]
  exact hK
end

theorem tells_bad {p : Int} {s : ByteArray} (hp : p ≤ 7) {k : Nat} (hk : k < s.size) (h64 : s.size ≤ 64) (h : bya s k < 48 ∨ p ≤ (bya s k - 48) % 256) : ¬ Tells p s := by
  intro ht
  have h1 := ht.2.1 (s.size - 1 - k) (by omega)
  unfold dig at h1
  rw [if_pos (by omega), show s.size - 1 - (s.size - 1 - k) = k by omega] at h1
  have h2 := bya_range s k
  rcases h with h | h <;> omega
theorem dig_set (s : ByteArray) (k : Nat) (hk : k < s.size) (h64 : s.size ≤ 64) :
    u8s 64 (fun j => if j = s.size - 1 - k then (bya s k - 48) % 256 else if s.size - k ≤ j then dig s j else 0) = u8s 64 (fun j => if s.size - (k + 1) ≤ j then dig s j else 0) :=
  u8s_ext fun j hj => by
    by_cases e1 : j = s.size - 1 - k
    · rw [if_pos e1, if_pos (by omega)]
      unfold dig; rw [if_pos (by omega), e1, show s.size - 1 - (s.size - 1 - k) = k by omega]
    · rw [if_neg e1]
      by_cases e2 : s.size - k ≤ j
      · rw [if_pos e2, if_pos (by omega)]
      · rw [if_neg e2, if_neg (by omega)]

theorem tells_all {p : Int} {s : ByteArray} (h64 : s.size ≤ 64) (h : ∀ j, j < s.size → dig s j < p) (hp : 0 < p) (ht : txt (mkp 64 (dig s)) = s) : Tells p s :=
  ⟨h64, fun i _ => by
    by_cases hi : i < s.size
    · exact h i hi
    · unfold dig; rw [if_neg hi]; exact hp, ht⟩
theorem ba_eq_of {a b : ByteArray} (h : (a == b) = true) : a = b := by
  rw [beq_toListBytes, ByteArray.toList_eq, ByteArray.toList_eq] at h
  obtain ⟨⟨x⟩⟩ := a
  obtain ⟨⟨y⟩⟩ := b
  have : x = y := by simpa using h
  rw [this]
theorem ba_beq_self (a : ByteArray) : (a == a) = true := by
  rw [beq_toListBytes]; simp

-- WALKS
theorem tells_beq {p : Int} {s : ByteArray} {b : Bool} (hb : Tells p s ↔ b = true) (h64 : s.size ≤ 64) (h : ∀ i : Nat, i < 64 → dig s i < p) : ((txt (mkp 64 (dig s))).toList == s.toList) = b := by
  rw [← beq_toListBytes, Bool.eq_iff_iff, ← hb]
  constructor
  · intro e
    exact ⟨h64, h, ba_eq_of (by rw [e])⟩
  · intro e
    rw [e.2.2]
    exact ba_beq_self s
set_option maxHeartbeats 1000000 in
theorem implParsePoly_any (p : Int) (s : ByteArray) (w : World) (hsz : s.size ≤ maxLen) (b c : Bool) (hb : Tells p s ↔ b = true) (hc : decide (Pr p) = c) :
    Calls Try.prog 17 #[.int .i64 p, .string s] w fun e w' => e = .returned (.tuple #[.agg (u8s 64 (if c && b then dig s else fun _ => 0)), .int .i64 (if c then (if b then 0 else 6) else 1)]) ∧ Below w.heap.size w w' := by
  have hbH := Lib.hid hb; clear hb
  have hcH := Lib.hid hc; clear hc
  unfold maxLen at hsz
  have hb0 := below_new w (.cells (u8s 64 fun _ => 0) 33)
  have hZ := Blk.new w (u8s 64 fun _ => 0) 33
  cases c
  · go_enter Try.func17, Try.ntmps17
    go_wp2_with (first | (refine wpl_alloc_arr rfl 33 rfl _ zPoly ?_) | (go_at_call 31; refine (isPrime_any p _ false hcH.out).mono ?_; rintro e w' ⟨rfl, rfl⟩) | (refine wpl_build_zero rfl 33 64 5 rfl _ uPoly sByte zPoly ?_) | (refine wpl_store_arr rfl 33 _ _ rfl _ rfl _ rfl _ _ hZ sPoly rfl (u8s_oneCell _ _) ?_))
    refine bodyPost_ret (res_ct rfl rfl (hZ.setRow_same (cs := u8s 64 fun _ => 0)) uPoly sPoly rfl) rfl ⟨rfl, below_setRow hb0 (by omega) _⟩
  · have hpr := of_decide_eq_true hcH.out
    have hp1 := hpr.pos.1
    have hp2 := hpr.pos.2
    have hprH := Lib.hid hpr
    clear hpr
    by_cases h64 : s.size ≤ 64
    · clear hZ hb0
      go_enter Try.func17, Try.ntmps17
      go_wp2_with (first | (refine wpl_alloc_arr rfl 33 rfl _ zPoly ?_) | (go_at_call 31; refine (isPrime_any p _ true hcH.out).mono ?_; rintro e w' ⟨rfl, rfl⟩))
      go_loopw [18] (fun i wr => ∃ k : Nat, k ≤ s.size ∧ i = .int .i64 k ∧ Blk wr w.heap.size (u8s 64 fun _ => 0) 33 ∧
        Blk wr (w.heap.size + 1) (u8s 64 fun j => if s.size - k ≤ j then dig s j else 0) 33 ∧ Below w.heap.size w wr) (fun i _ => s.size - (intOf i).toNat)
      case atStart =>
        obtain ⟨hb1, h0, h1⟩ := boxes2 w (u8s 64 fun _ => 0) (u8s 64 fun _ => 0) 33 33
        refine ⟨0, by omega, by simp, h0, h1.cast (u8s_ext fun j _ => ?_), hb1⟩
        by_cases e : s.size - 0 ≤ j
        · rw [if_pos e]; unfold dig; rw [if_neg (by omega)]
        · rw [if_neg e]
      case round =>
        obtain ⟨k, hk, rfl, b0, b1, hb⟩ := hrel
        by_cases hlt : k < s.size
        · have hr := bya_range s k
          have hr0 := hr.1
          have hr1 := hr.2
          clear hr
          have eix : ((s.size : Int) - 1 - (k : Int)) = ((s.size - 1 - k : Nat) : Int) := by omega
          have c0 : wr.cell? ⟨w.heap.size + 1, s.size - 1 - k, none⟩ = some (.int .u8 0) := by rw [b1.cell, u8s_get _ (by omega), if_neg (by omega)]
          have c1 := b1.free (s.size - 1 - k)
          go_wp2_with (refine wpl_index_str rfl 9 _ _ rfl s rfl .i64 k rfl hlt Try.underlying9 ?_)
          go_roundw
          case rel =>
            refine ⟨k + 1, by omega, by go_num, b0.set_other _ _ (by simp), ?_, hb.setCell (by simp) _⟩
            refine (b1.set (s.size - 1 - k) _).cast ?_
            rw [u8s_set]
            exact dig_set s k hlt h64
          case measure => simp [intOf] <;> omega
        · obtain rfl : k = s.size := by omega
          have b1' := b1.cast (u8s_ext fun j _ => if_pos (by omega))
          clear b1
          have hd := dig_By s
          have hdH := Lib.hid hd; clear hd
          obtain ⟨bP, hbP⟩ : ∃ bP, decide (∀ i : Nat, i < 64 → dig s i < p) = bP := ⟨_, rfl⟩
          have hbPH := Lib.hid hbP; clear hbP
          go_wp2_with (first | (refine wpl_load_arr rfl 33 _ rfl _ rfl _ _ b1' _ _ uPoly sPoly ?_))
          refine (isPoly_any (dig s) p _ hdH.out.on bP hbPH.out).mono ?_
          rintro e w2 ⟨rfl, hb2⟩
          have b0 := b0.keep hb2
          have b1 := b1'.keep hb2
          have hb := below_step hb hb2
          clear hb2 b1'
          cases bP
          · have e : b = false := by
              cases b
              · rfl
              · exact absurd (hbH.out.2 rfl).2.1 (of_decide_eq_false hbPH.out)
            subst e
            go_wp2_with (first | (refine wpl_build_zero rfl 33 64 5 rfl _ uPoly sByte zPoly ?_) | (refine wpl_store_arr rfl 33 _ _ rfl _ rfl _ rfl _ _ b0 sPoly rfl (u8s_oneCell _ _) ?_))
            refine bodyPost_ret (res_ct rfl rfl (b0.setRow_same (cs := u8s 64 fun _ => 0)) uPoly sPoly rfl) rfl ⟨rfl, below_setRow hb (by omega) _⟩
          · have hdl := of_decide_eq_true hbPH.out
            have htx := tells_beq hbH.out h64 hdl
            have htxH := Lib.hid htx
            have hx : ∀ i, 0 ≤ cf (mkp 64 (dig s)) i ∧ cf (mkp 64 (dig s)) i ≤ 6 := fun i => by
              rw [mkp_cf]; split
              · have := hdl i ‹_›; have := hdH.out i; omega
              · omega
            have hxH := Lib.hid hx
            clear htx hx hdl
            go_wp2_with (first | (refine wpl_load_arr rfl 33 _ rfl _ rfl _ _ b1 _ _ uPoly sPoly ?_))
            refine (rowOf_any (dig s) _ hdH.out.on).mono ?_
            rintro e w3 ⟨v, rfl, hrow, hb3⟩
            have b0 := b0.keep hb3
            have b1 := b1.keep hb3
            have hb := below_step hb hb3
            clear hb3
            go_wp2_with fail
            refine (text_any v _ _ hrow hxH.out (by have := mkp_length 64 (dig s); omega)).mono ?_
            obtain ⟨TX, hTX⟩ : ∃ TX, txt (mkp 64 (dig s)) = TX := ⟨_, rfl⟩
            rw [hTX] at htxH ⊢
            rintro e w4 ⟨rfl, hb4⟩
            have b0 := b0.keep hb4
            have b1 := b1.keep hb4
            have hb := below_step hb hb4
            clear hb4 hTX
            have htx := htxH.out
            cases b
            · go_wp2_with (first | (refine wpl_build_zero rfl 33 64 5 rfl _ uPoly sByte zPoly ?_) | (refine wpl_store_arr rfl 33 _ _ rfl _ rfl _ rfl _ _ b0 sPoly rfl (u8s_oneCell _ _) ?_))
              refine bodyPost_ret (res_ct rfl rfl (b0.setRow_same (cs := u8s 64 fun _ => 0)) uPoly sPoly rfl) rfl ⟨rfl, below_setRow hb (by omega) _⟩
            · go_wp2_with (first | (refine wpl_load_arr rfl 33 _ rfl _ rfl _ _ b1 _ _ uPoly sPoly ?_) | (refine wpl_store_arr rfl 33 _ _ rfl _ rfl _ rfl _ _ b0 sPoly rfl (u8s_oneCell _ _) ?_))
              refine bodyPost_ret (res_ct rfl rfl (b0.setRow_same (cs := u8s 64 (dig s))) uPoly sPoly rfl) rfl ⟨rfl, below_setRow hb (by omega) _⟩
    · have e : b = false := by
        cases b
        · rfl
        · exact absurd (hbH.out.2 rfl).1 h64
      subst e
      go_enter Try.func17, Try.ntmps17
      go_wp2_with (first | (refine wpl_alloc_arr rfl 33 rfl _ zPoly ?_) | (go_at_call 31; refine (isPrime_any p _ true hcH.out).mono ?_; rintro e w' ⟨rfl, rfl⟩) | (refine wpl_build_zero rfl 33 64 5 rfl _ uPoly sByte zPoly ?_) | (refine wpl_store_arr rfl 33 _ _ rfl _ rfl _ rfl _ _ hZ sPoly rfl (u8s_oneCell _ _) ?_))
      refine bodyPost_ret (res_ct rfl rfl (hZ.setRow_same (cs := u8s 64 fun _ => 0)) uPoly sPoly rfl) rfl ⟨rfl, below_setRow hb0 (by omega) _⟩
section
variable {P : Program} {o : Oper} {a : Act} {w : World} {Q : Exit → Act → World → Prop}
theorem wp_eql_str (t t' : TypeId) (x y : Operand) (hop : o.op = .binOp .eql t x y t') (A B : ByteArray) (hx : a.eval x = .string A) (hy : a.eval y = .string B) (b : Bool) (hb : (A.toList == B.toList) = b) :
    o.wp P a w (fun a' w' => a' = a.put o.dst (.bool b) ∧ Below w.heap.size w w') Q := by
  subst hb
  refine wp_val' _ ?_
  unfold execOp
  simp [hop, hx, hy, Sem.run_bind, eqGuard, binOp_string_eql]
end
theorem txt_empty {s : ByteArray} (h : s.size = 0) (p : Int) : ¬ Tells p s := fun ht => by
  have h1 := txt_size_pos (mkp 64 (dig s))
  rw [ht.2.2] at h1
  omega
set_option maxRecDepth 20000 in
set_option maxHeartbeats 2000000 in
theorem l01Read_any (p : Int) (s : ByteArray) (w : World) (hsz : s.size ≤ maxLen) (b : Bool) (hp : Pr p) (hb : Tells p s ↔ b = true) :
    Calls Try.prog 45 #[.int .i64 p, .string s] w fun e w' => (∃ f, e = .returned (.tuple #[.agg (u8s 64 f), .bool b]) ∧ (b = true → f = dig s)) ∧ Below w.heap.size w w' := by
  have hbH := Lib.hid hb; clear hb
  unfold maxLen at hsz
  have hp1 := hp.pos.1
  have hp2 := hp.pos.2
  clear hp
  have hb0 := below_new w (.cells (u8s 64 fun _ => 0) 33)
  have hZ := Blk.new w (u8s 64 fun _ => 0) 33
  obtain ⟨hb1, h0, h1⟩ := boxes2 w (u8s 64 fun _ => 0) (u8s 64 fun _ => 0) 33 33
  by_cases h64 : s.size ≤ 64 ∧ s.size ≠ 0
  · have h64a := h64.1
    have h64b := h64.2
    clear h64
    have h00 : ((s.size : Int) == 0) = false := by rw [beq_eq_false_iff_ne]; omega
    go_enter Try.func45, Try.ntmps45
    go_wp2_with (first | (refine wpl_alloc_arr rfl 33 rfl _ zPoly ?_) | (refine wpl_build_zero rfl 33 64 5 rfl _ uPoly sByte zPoly ?_) | (refine wpl_store_new rfl 33 _ _ rfl _ rfl (by first | rfl | simp) _ rfl sPoly (by simp only [u8s_size]) (u8s_oneCell _ _) ?_))
    go_loopw [8] (fun i wr => ∃ k : Nat, k ≤ s.size ∧ i = .int .i64 k ∧ Blk wr w.heap.size (u8s 64 fun _ => 0) 33 ∧
      Blk wr (w.heap.size + 1) (u8s 64 fun j => if s.size - k ≤ j then dig s j else 0) 33 ∧ Hid (∀ j, s.size - k ≤ j → dig s j < p) ∧ Below w.heap.size w wr) (fun i _ => s.size - (intOf i).toNat)
    case atStart =>
      refine ⟨0, by omega, by simp, h0, h1.cast (u8s_ext fun j _ => ?_), Lib.hid fun j hj => ?_, hb1⟩
      · by_cases e : s.size - 0 ≤ j
        · rw [if_pos e]; unfold dig; rw [if_neg (by omega)]
        · rw [if_neg e]
      · unfold dig; rw [if_neg (by omega)]; omega
    case round =>
      obtain ⟨k, hk, rfl, b0, b1, hlH, hb⟩ := hrel
      clear hZ hb0 hb1 h0 h1
      by_cases hlt : k < s.size
      · have hr := bya_range s k
        have hr0 := hr.1
        have hr1 := hr.2
        clear hr
        have eix : ((s.size : Int) - 1 - (k : Int)) = ((s.size - 1 - k : Nat) : Int) := by omega
        have c0 : wr.cell? ⟨w.heap.size + 1, s.size - 1 - k, none⟩ = some (.int .u8 0) := by rw [b1.cell, u8s_get _ (by omega), if_neg (by omega)]
        have c1 := b1.free (s.size - 1 - k)
        by_cases hA : bya s k < 48
        · have e : b = false := by
            cases b
            · rfl
            · exact absurd (hbH.out.2 rfl) (tells_bad hp2 hlt h64a (.inl hA))
          subst e
          go_wp2_with (first | (refine wpl_index_str rfl 9 _ _ rfl s rfl .i64 k rfl hlt Try.underlying9 ?_) | (refine wpl_build_zero rfl 33 64 5 rfl _ uPoly sByte zPoly ?_) | (refine wpl_store_arr rfl 33 _ _ rfl _ rfl _ rfl _ _ b0 sPoly rfl (u8s_oneCell _ _) ?_))
          refine bodyPost_ret (res_ct rfl rfl (b0.setRow_same (cs := u8s 64 fun _ => 0)) uPoly sPoly rfl) rfl ⟨(by first | exact ⟨_, rfl, fun h => by cases h⟩ | exact ⟨_, rfl⟩), below_setRow hb (by omega) _⟩
        · by_cases hB : p ≤ bya s k - 48
          · have e : b = false := by
              cases b
              · rfl
              · exact absurd (hbH.out.2 rfl) (tells_bad hp2 hlt h64a (.inr (by omega)))
            subst e
            go_wp2_with (first | (refine wpl_index_str rfl 9 _ _ rfl s rfl .i64 k rfl hlt Try.underlying9 ?_) | (refine wpl_build_zero rfl 33 64 5 rfl _ uPoly sByte zPoly ?_) | (refine wpl_store_arr rfl 33 _ _ rfl _ rfl _ rfl _ _ b0 sPoly rfl (u8s_oneCell _ _) ?_))
            refine bodyPost_ret (res_ct rfl rfl (b0.setRow_same (cs := u8s 64 fun _ => 0)) uPoly sPoly rfl) rfl ⟨(by first | exact ⟨_, rfl, fun h => by cases h⟩ | exact ⟨_, rfl⟩), below_setRow hb (by omega) _⟩
          · have hB2 : (bya s k - 48) % 256 < p := by omega
            have hB3 : bya s k - 48 < p := by omega
            go_wp2_with (first | (refine wpl_index_str rfl 9 _ _ rfl s rfl .i64 k rfl hlt Try.underlying9 ?_))
            go_roundw
            case rel =>
              refine ⟨k + 1, by omega, by go_num, b0.set_other _ _ (by simp), ?_, Lib.hid fun j hj => ?_, hb.setCell (by simp) _⟩
              · refine (b1.set (s.size - 1 - k) _).cast ?_
                rw [u8s_set]
                have h := dig_set s k hlt h64a
                rw [show (bya s k - 48) % 256 = bya s k - 48 by omega] at h
                exact h
              · by_cases e : j = s.size - 1 - k
                · unfold dig; rw [if_pos (by omega), e, show s.size - 1 - (s.size - 1 - k) = k by omega]; exact hB2
                · exact hlH.out j (by omega)
            case measure => simp [intOf] <;> omega
      · obtain rfl : k = s.size := by omega
        have b1 := b1.cast (u8s_ext fun j _ => if_pos (by omega))
        have hd6 : ∀ i, 0 ≤ dig s i ∧ dig s i ≤ 6 := fun i => by have := hlH.out i (by omega); have := dig_By s i; omega
        have hdl := hlH.out
        have htx := tells_beq hbH.out h64a (fun i _ => hdl i (by omega))
        have ht := fun w => l01Text_any (dig s) w hd6
        obtain ⟨TX, hTX⟩ : ∃ TX, txt (mkp 64 (dig s)) = TX := ⟨_, rfl⟩
        rw [hTX] at htx ht
        have htxH := Lib.hid htx
        have htH := Lib.hid ht
        clear htx ht hTX hd6 hdl hlH
        go_upto_region 10 with (fail)
        refine gen_region (ws := w) (w := _) (B := w.heap.size) (by kernel_rfl) (by kernel_rfl) (by kernel_rfl) (by kernel_rfl)
            (fun i => ([fun zv _ => zv = .agg (u8s 64 (dig s)), fun zv _ => zv = .agg (u8s 64 (dig s)), fun zv _ => zv = .string TX, fun zv _ => zv = .string s, fun zv _ => zv = .bool b, fun _ _ => True, fun zv _ => zv = .bool b] : List (Value → World → Prop)).getD i (fun _ _ => True))
            (fun i => ([true, true, false, true, true, true, true] : List Bool).getD i true)
            1 (fun zk => [5].getD zk 0) (fun zk => [0].getD zk 0) (fun zk => [4].getD zk 0) (fun zk => [47].getD zk 0) (fun zk => [w.heap.size].getD zk 0) (fun zk => [64].getD zk 0) (fun zk => [(dig s)].getD zk (fun _ => 0)) (fun zk => [(fun _ => 0)].getD zk (fun _ => 0)) (fun zk => [33].getD zk 0) hb (Nat.le_refl _)
            (fun w' => Blk w' (w.heap.size + 1) (u8s 64 (dig s)) 33 ∧ True) ⟨b1.drew, trivial⟩ (fun w1 w2 h hb => ⟨h.1.keep hb, trivial⟩) ?_ ?_ ?_ ?_ ?_ ?_ ?_
        · intro k hk w1 cs h
          rcases k with _|k
          · exact ⟨h.1.setRow_other (by simp only [List.getD_cons_zero, List.getD_cons_succ] <;> omega), trivial⟩
          · omega
        · intro i v w1 w2 h hb
          rcases i with _|_|_|_|_|_|_|i
          · exact h
          · exact h
          · exact h
          · exact h
          · exact h
          · exact h
          · exact h
          · exact h
        · intro k hk
          rcases k with _|k
          · kernel_rfl
          · omega
        · intro k hk
          rcases k with _|k
          · refine ⟨?_, (by kernel_rfl), b0, fun v w' h => h, by decide, ?_⟩
            · simp only [List.getD_cons_zero, List.getD_cons_succ] <;> omega
            · intro k' hk' hne
              rcases k' with _|k'
              all_goals first | omega | exact absurd rfl hne | (refine ⟨?_, by decide⟩; simp only [List.getD_cons_zero, List.getD_cons_succ]; omega)
          · omega
        · kernel_rfl
        · intro i o ho hz a w2 hBs hSx hBl hrd hpar
          rcases i with _|_|_|_|_|_|_|i
          · obtain rfl := Option.some.inj ho
            exact wpv_of (wp_loadB 33 _ rfl _ (hpar 7 (.pointer (some ⟨w.heap.size + 1, 0, none⟩)) (by kernel_rfl) (by kernel_rfl)) _ _ hSx.1 _ _ uPoly sPoly) (fun _ _ => rfl)
          · obtain rfl := Option.some.inj ho
            exact wpv_of (wp_loadB 33 _ rfl _ (hpar 7 (.pointer (some ⟨w.heap.size + 1, 0, none⟩)) (by kernel_rfl) (by kernel_rfl)) _ _ hSx.1 _ _ uPoly sPoly) (fun _ _ => rfl)
          · obtain rfl := Option.some.inj ho
            obtain ⟨_, e48⟩ : ∃ _w : World, a.eval (.tmp 48) = .agg (u8s 64 (dig s)) := (hrd 1 _ 48 rfl rfl (by kernel_rfl) (by kernel_rfl) (by decide)).1
            exact wpv_call 63 [.tmp 48] _ rfl [.agg (u8s 64 (dig s))] (by simp only [List.map_cons, List.map_nil, e48]) Try.call63 ((htH.out w2).mono fun _ _ h => ⟨_, h.1, rfl, h.2⟩)
          · obtain rfl := Option.some.inj ho
            have e1 : a.eval (.tmp 1) = .string s := hpar 1 _ (by kernel_rfl) (by kernel_rfl)
            exact wpv_of (wp_move _ _ rfl e1) (fun _ _ => rfl)
          · obtain rfl := Option.some.inj ho
            obtain ⟨_, e49⟩ : ∃ _w : World, a.eval (.tmp 49) = .string TX := (hrd 2 _ 49 rfl rfl (by kernel_rfl) (by kernel_rfl) (by decide)).1
            obtain ⟨_, e50⟩ : ∃ _w : World, a.eval (.tmp 50) = .string s := (hrd 3 _ 50 rfl rfl (by kernel_rfl) (by kernel_rfl) (by decide)).1
            exact wpv_of (wp_eql_str _ _ _ _ rfl _ _ e49 e50 b htxH.out) (fun _ _ => rfl)
          · exact absurd rfl (hz 0 (by decide))
          · obtain rfl := Option.some.inj ho
            obtain ⟨_, e51⟩ : ∃ _w : World, a.eval (.tmp 51) = .bool b := (hrd 4 _ 51 rfl rfl (by kernel_rfl) (by kernel_rfl) (by decide)).1
            exact wpv_of (wp_assign _ _ rfl e51) (fun _ _ => rfl)
          · simp at ho
        intro vals xE hBx hSx hS0 hcs hrs
        obtain ⟨_, e0⟩ : ∃ _w : World, vals 0 = .agg (u8s 64 (dig s)) := hcs 0 (by simp) (by decide)
        obtain ⟨_, e1⟩ : ∃ _w : World, vals 1 = .agg (u8s 64 (dig s)) := hcs 1 (by simp) (by decide)
        obtain ⟨_, e2⟩ : ∃ _w : World, vals 2 = .string TX := hcs 2 (by simp) (by decide)
        obtain ⟨_, e3⟩ : ∃ _w : World, vals 3 = .string s := hcs 3 (by simp) (by decide)
        obtain ⟨_, e4⟩ : ∃ _w : World, vals 4 = .bool b := hcs 4 (by simp) (by decide)
        obtain ⟨_, e6⟩ : ∃ _w : World, vals 6 = .bool b := hcs 6 (by simp) (by decide)
        have hsE0 : Blk xE (w.heap.size) (u8s 64 (dig s)) 33 := hrs 0 (by decide)
        simp only [List.length_cons, List.length_nil, Nat.zero_add, Nat.reduceAdd, List.replicate, putAll, if_true, Act.put, List.setIfInBounds_toArray, List.set_cons_zero, List.set_cons_succ, e0, e1, e2, e3, e4, e6]
        replace b1 := hSx.1
        clear hcs hrs hS0 hSx e0 e1 e2 e3 e4 e6
        go_wp2_with fail
        exact bodyPost_ret (res_ct rfl rfl hsE0 uPoly sPoly rfl) rfl ⟨⟨_, rfl, fun _ => rfl⟩, hBx⟩
  · have e : b = false := by
      cases b
      · rfl
      · by_cases hs : s.size = 0
        · exact absurd (hbH.out.2 rfl) (txt_empty hs p)
        · exact absurd ((hbH.out.2 rfl).1) (by omega)
    subst e
    by_cases hs : s.size = 0
    · have h00 : ((s.size : Int) == 0) = true := by rw [hs]; rfl
      clear hs
      go_enter Try.func45, Try.ntmps45
      go_wp2_with (first | (refine wpl_alloc_arr rfl 33 rfl _ zPoly ?_) | (refine wpl_build_zero rfl 33 64 5 rfl _ uPoly sByte zPoly ?_) | (refine wpl_store_arr rfl 33 _ _ rfl _ rfl _ rfl _ _ h0 sPoly rfl (u8s_oneCell _ _) ?_) | (refine wpl_store_new rfl 33 _ _ rfl _ rfl (by first | rfl | simp) _ rfl sPoly (by simp only [u8s_size]) (u8s_oneCell _ _) ?_))
      refine bodyPost_ret (res_ct rfl rfl (h0.setRow_same (cs := u8s 64 fun _ => 0)) uPoly sPoly rfl) rfl ⟨(by first | exact ⟨_, rfl, fun h => by cases h⟩ | exact ⟨_, rfl⟩), below_setRow hb1 (by omega) _⟩
    · have h00 : ((s.size : Int) == 0) = false := by rw [beq_eq_false_iff_ne]; omega
      have h64b : 64 < s.size := by omega
      go_enter Try.func45, Try.ntmps45
      go_wp2_with (first | (refine wpl_alloc_arr rfl 33 rfl _ zPoly ?_) | (refine wpl_build_zero rfl 33 64 5 rfl _ uPoly sByte zPoly ?_) | (refine wpl_store_arr rfl 33 _ _ rfl _ rfl _ rfl _ _ h0 sPoly rfl (u8s_oneCell _ _) ?_) | (refine wpl_store_new rfl 33 _ _ rfl _ rfl (by first | rfl | simp) _ rfl sPoly (by simp only [u8s_size]) (u8s_oneCell _ _) ?_))
      refine bodyPost_ret (res_ct rfl rfl (h0.setRow_same (cs := u8s 64 fun _ => 0)) uPoly sPoly rfl) rfl ⟨(by first | exact ⟨_, rfl, fun h => by cases h⟩ | exact ⟨_, rfl⟩), below_setRow hb1 (by omega) _⟩
set_option maxRecDepth 20000 in
set_option maxHeartbeats 2000000 in
theorem specParsePoly_any (p : Int) (s : ByteArray) (w : World) (hsz : s.size ≤ maxLen) (b c : Bool) (hb : Tells p s ↔ b = true) (hc : decide (Pr p) = c) :
    Calls Try.prog 16 #[.int .i64 p, .string s] w fun e w' => e = .returned (.tuple #[.agg (u8s 64 (if c && b then dig s else fun _ => 0)), .int .i64 (if c then (if b then 0 else 6) else 1)]) ∧ Below w.heap.size w w' := by
  have hbH := Lib.hid hb; clear hb
  have hcH := Lib.hid hc; clear hc
  have hb0 := below_new w (.cells (u8s 64 fun _ => 0) 33)
  have hZ := Blk.new w (u8s 64 fun _ => 0) 33
  cases c
  · go_enter Try.func16, Try.ntmps16
    go_wp2_with (first | (refine wpl_alloc_arr rfl 33 rfl _ zPoly ?_) | (go_at_call 44; refine (l01Prime_any p _ false hcH.out).mono ?_; rintro e w' ⟨rfl, rfl⟩) | (refine wpl_build_zero rfl 33 64 5 rfl _ uPoly sByte zPoly ?_) | (refine wpl_store_arr rfl 33 _ _ rfl _ rfl _ rfl _ _ hZ sPoly rfl (u8s_oneCell _ _) ?_))
    refine bodyPost_ret (res_ct rfl rfl (hZ.setRow_same (cs := u8s 64 fun _ => 0)) uPoly sPoly rfl) rfl ⟨rfl, below_setRow hb0 (by omega) _⟩
  · have hpr := of_decide_eq_true hcH.out
    have hprH := Lib.hid hpr
    clear hpr
    go_enter Try.func16, Try.ntmps16
    go_wp2_with (first | (refine wpl_alloc_arr rfl 33 rfl _ zPoly ?_) | (go_at_call 44; refine (l01Prime_any p _ true hcH.out).mono ?_; rintro e w' ⟨rfl, rfl⟩))
    refine (l01Read_any p s _ hsz b hprH.out hbH.out).mono ?_
    rintro e w1 ⟨⟨f, rfl, hf⟩, hb1⟩
    have hb2 := below_step hb0 hb1
    have hZ1 := hZ.keep hb1
    have hN := Blk.new w1 (u8s 64 f) 33
    have hZ2 := hZ1.alloc (.cells (u8s 64 f) 33)
    have hb3 := hb2.alloc (by have := hZ1.lt; omega) (.cells (u8s 64 f) 33)
    clear hZ hb0 hb1 hZ1 hb2
    cases b
    · clear hf
      go_wp2_with (first | (refine wpl_alloc_arr rfl 33 rfl _ zPoly ?_) | (refine wpl_build_zero rfl 33 64 5 rfl _ uPoly sByte zPoly ?_) | (refine wpl_store_arr rfl 33 _ _ rfl _ rfl _ rfl _ _ hZ2 sPoly rfl (u8s_oneCell _ _) ?_) | (refine wpl_store_new rfl 33 _ _ rfl _ rfl rfl _ rfl sPoly (by simp only [u8s_size]) (u8s_oneCell _ _) ?_))
      refine bodyPost_ret (res_ct rfl rfl (hZ2.setRow_same (cs := u8s 64 fun _ => 0)) uPoly sPoly rfl) rfl ⟨rfl, below_setRow hb3 (by omega) _⟩
    · obtain rfl := hf rfl
      go_wp2_with (first | (refine wpl_alloc_arr rfl 33 rfl _ zPoly ?_) | (refine wpl_load_arr rfl 33 _ rfl _ rfl _ _ hN _ _ uPoly sPoly ?_) | (refine wpl_store_arr rfl 33 _ _ rfl _ rfl _ rfl _ _ hZ2 sPoly rfl (u8s_oneCell _ _) ?_) | (refine wpl_store_new rfl 33 _ _ rfl _ rfl rfl _ rfl sPoly (by simp only [u8s_size]) (u8s_oneCell _ _) ?_))
      refine bodyPost_ret (res_ct rfl rfl (hZ2.setRow_same (cs := u8s 64 (dig s))) uPoly sPoly rfl) rfl ⟨rfl, below_setRow hb3 (by omega) _⟩
theorem ParsePoly_pair (p : Int) (s : ByteArray) (_ : (Lit.int .i64 p).wf = true) (hsz : s.size ≤ maxLen) : ∃ (r0 : Nat → Int) (r1 : Int),
    (∀ w, Calls Try.prog 16 #[.int .i64 p, .string s] w fun e w' => e = .returned (.tuple #[.agg (u8s 64 r0), .int .i64 r1]) ∧ Below w.heap.size w w') ∧
    (∀ w, Calls Try.prog 17 #[.int .i64 p, .string s] w fun e w' => e = .returned (.tuple #[.agg (u8s 64 r0), .int .i64 r1]) ∧ Below w.heap.size w w') := by
  obtain ⟨b, hb⟩ := dec_true (Tells p s)
  exact ⟨_, _, fun w => specParsePoly_any p s w hsz b _ hb rfl, fun w => implParsePoly_any p s w hsz b _ hb rfl⟩
end Go.Proofs.Ytnkkkgaojhkniaa
