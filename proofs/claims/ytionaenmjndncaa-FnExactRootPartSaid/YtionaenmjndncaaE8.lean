/- Walks: brackets on both sides. -/
import Derived.Test.YtionaenmjndncaaE7
set_option linter.unusedVariables false
set_option linter.unusedSimpArgs false
namespace Go.Proofs.Ytionaenmjndncaa
open Go.RowKit

set_option maxHeartbeats 400000 in
theorem letter_any (w : World) : Calls Try.prog 75 #[] w fun e w' => ∃ v, e = .returned v ∧ IsRow w' v [0, 1] ∧ Below w.heap.size w w' := by
  have hB := Blk.new w #[Value.int .i64 0, Value.int .i64 1] 2
  have hrow : IsRow (w.alloc (.cells #[Value.int .i64 0, Value.int .i64 1] 2)) (.slice (some ⟨w.heap.size, 0, none⟩) 2 2) [0, 1] := by
    refine ⟨some ⟨w.heap.size, 0, none⟩, 2, rfl, by simp, by unfold maxLen; omega, fun _ => ⟨_, 0, rfl, fun i hi => ?_⟩⟩
    rw [hB.cell, Nat.zero_add]
    simp only [List.length_cons, List.length_nil] at hi
    rcases i with _ | _ | i
    · rfl
    · rfl
    · omega
  have hrowH := Lib.hid hrow
  clear hrow hB
  go_enter Try.func75, Try.ntmps75
  go_wp2_with fail
  go_ret
  exact ⟨_, rfl, hrowH.out, below_new _ _⟩
theorem lett_Po {p : Int} (hp : Pr p) : Po p [0, 1] := letter_Po hp.pos.1

set_option maxHeartbeats 1000000 in
theorem bracket_any (p : Int) (P i q : Nat) (w : World) (hp : Pr p) (hP : p = P) (hq : q = P ^ i) (hi : i ≤ 6) :
    Calls Try.prog 36 #[.int .i64 p, .int .i64 i, .int .i64 0] w fun e w' => ∃ v, e = .returned v ∧ IsRow w' v (brk p q) ∧ Below w.heap.size w w' := by
  obtain ⟨q1, q2, q3⟩ := q_bounds hp hP hq hi
  have hp2 := hp.pos
  have h1 := Lib.hid (fun va w (h : IsRow w va [0, 1]) => spread_any va [0, 1] p P i q w hp hP hq hi h (by simp))
  have h2 := fun va w (h : IsRow w va [0, 1]) => spread_any va [0, 1] p P 0 1 w hp hP (by simp) (by omega) h (by simp)
  rw [sprd_one (letter_Po (p := p) hp2.1).tr] at h2
  have h2H := Lib.hid h2
  have hl : (sprd [0, 1] q).length = q + 1 := by rw [sprd_length (by simp)]; simp
  have h3 := Lib.hid (fun va vb w (ha : IsRow w va (sprd [0, 1] q)) (hb : IsRow w vb [0, 1]) => combine_any va vb _ _ p (-1) w hp ha hb (sprd_Po (by omega) (letter_Po hp2.1) (by omega)).md (letter_Po hp2.1).md (by decide) (by decide) (by omega) (by simp))
  unfold brk
  clear h2 hl q1 q2 q3 hq hi hP hp hp2
  go_enter Try.func36, Try.ntmps36
  go_wp2_with fail
  refine (letter_any _).mono ?_
  rintro e w1 ⟨v1, rfl, hr, hb⟩
  have k1 := Lib.hid hr
  clear hr
  go_wp2_with fail
  refine (h1.out _ _ k1.out).mono ?_
  rintro e w2 ⟨v2, rfl, hr, hn⟩
  have k2 := Lib.hid hr
  replace hb := below_step hb hn
  clear hr hn k1
  go_wp2_with fail
  refine (letter_any _).mono ?_
  rintro e w3 ⟨v3, rfl, hr, hn⟩
  have k1 := Lib.hid hr
  replace k2 := Lib.hid (k2.out.below hn)
  replace hb := below_step hb hn
  clear hr hn
  go_wp2_with fail
  refine (h2H.out _ _ k1.out).mono ?_
  rintro e w4 ⟨v4, rfl, hr, hn⟩
  have k3 := Lib.hid hr
  replace k2 := Lib.hid (k2.out.below hn)
  replace hb := below_step hb hn
  clear hr hn k1
  go_wp2_with fail
  refine (h3.out _ _ _ k2.out k3.out).mono ?_
  rintro e w5 ⟨v5, rfl, hr, hn⟩
  have k4 := Lib.hid hr
  replace hb := below_step hb hn
  clear hr hn
  go_wp2_with fail
  go_ret
  exact ⟨_, rfl, k4.out, hb⟩

set_option maxHeartbeats 400000 in
theorem l04Range_any (p n lo hi : Int) (w : World) (b c : Bool) (hb : decide (Pr p) = b) (hc : decide (lo ≤ n ∧ n ≤ hi) = c) :
    Calls Try.prog 32 #[.int .i64 p, .int .i64 n, .int .i64 lo, .int .i64 hi] w fun e w' => e = .returned (.int .i64 (modC b c)) ∧ w = w' := by
  have h1 := Lib.hid (fun w => l01Prime_any p w b hb)
  have h2 := Lib.hid (fun w => l01In_any n lo hi w c hc)
  clear hb hc
  go_enter Try.func32, Try.ntmps32
  go_wp2_with fail
  refine (h1.out _).mono ?_
  rintro e w1 ⟨rfl, rfl⟩
  cases b
  · go_wp2_with fail
    go_ret
    exact ⟨rfl, rfl⟩
  · go_wp2_with fail
    refine (h2.out _).mono ?_
    rintro e w1 ⟨rfl, rfl⟩
    cases c
    · go_wp2_with fail
      go_ret
      exact ⟨rfl, rfl⟩
    · go_wp2_with fail
      go_ret
      exact ⟨rfl, rfl⟩

set_option maxHeartbeats 400000 in
theorem numberCode_any (p n lo hi : Int) (w : World) (b c : Bool) (hb : decide (Pr p) = b) (hc : decide (lo ≤ n ∧ n ≤ hi) = c) :
    Calls Try.prog 34 #[.int .i64 p, .int .i64 n, .int .i64 lo, .int .i64 hi] w fun e w' => e = .returned (.int .i64 (modC b c)) ∧ w = w' := by
  have h1 := Lib.hid (fun w => isPrime_any p w b hb)
  have h2 := Lib.hid (fun w => within_any n lo hi w c hc)
  clear hb hc
  go_enter Try.func34, Try.ntmps34
  go_wp2_with fail
  refine (h1.out _).mono ?_
  rintro e w1 ⟨rfl, rfl⟩
  cases b
  · go_wp2_with fail
    go_ret
    exact ⟨rfl, rfl⟩
  · go_wp2_with fail
    refine (h2.out _).mono ?_
    rintro e w1 ⟨rfl, rfl⟩
    cases c
    · go_wp2_with fail
      go_ret
      exact ⟨rfl, rfl⟩
    · go_wp2_with fail
      go_ret
      exact ⟨rfl, rfl⟩

def brkPost (p : Int) (q : Nat) (d : Bool) (e : Ending) : Prop := ∃ M, e = .returned (.tuple #[.agg (u8s 64 (cf M)), .bool d]) ∧ (d = true → M = brk p q)

set_option maxRecDepth 20000 in
set_option maxHeartbeats 2000000 in
theorem l04Bracket_any (p : Int) (P i q : Nat) (w : World) (hp : Pr p) (hP : p = P) (hq : q = P ^ i) (hi : i ≤ 6) (d : Bool) (hd : decide (q ≤ 63) = d) :
    Calls Try.prog 33 #[.int .i64 p, .int .i64 i, .int .i64 0] w fun e w' => brkPost p q d e ∧ Below w.heap.size w w' := by
  obtain ⟨q1, q2, q3⟩ := q_bounds hp hP hq hi
  have hp2 := hp.pos
  have hT : P64 p [0, 1] := ⟨hp, letter_Po hp2.1, by simp⟩
  have h1 := fun w => l04Raise_any [0, 1] p P i q w hT hP hq hi d (by rw [← hd]; apply decide_eq_decide.2; simp)
  have h2 := fun w => l04Raise_any [0, 1] p P 0 1 w hT hP (by simp) (by omega) true (by decide)
  have e2 : raiF [0, 1] 1 = cf [0, 1] := by unfold raiF; rw [if_pos (by decide), sprd_one hT.po.tr]
  rw [e2] at h2
  obtain ⟨S, hS⟩ : ∃ S : List Int, S = if q ≤ 63 then sprd [0, 1] q else [] := ⟨_, rfl⟩
  have hl : (sprd [0, 1] q).length = q + 1 := by rw [sprd_length (by simp)]; simp
  have e1 : raiF [0, 1] q = cf S := by
    unfold raiF
    rw [hS]
    by_cases h : q ≤ 63
    · rw [if_pos (by simpa using h), if_pos h]
    · rw [if_neg (by simpa using h), if_neg h, cf_void]
  have hSP : P64 p S := by
    rw [hS]; split
    · exact ⟨hp, sprd_Po (by omega) hT.po (by omega), by omega⟩
    · exact P64.nil hp
  rw [e1] at h1
  have h3 := fun w => l01Add_list S [0, 1] p (-1) w hSP hT (by decide) (by decide)
  have hfin : d = true → addp p S [0, 1] (-1) = brk p q := fun e => by unfold brk; rw [hS, if_pos (of_decide_eq_true (hd.trans e))]
  obtain ⟨M, hM⟩ : ∃ M, addp p S [0, 1] (-1) = M := ⟨_, rfl⟩
  rw [hM] at h3 hfin
  have k1 := Lib.hid h1
  have k2 := Lib.hid h2
  have k3 := Lib.hid h3
  have hfH := Lib.hid hfin
  clear h1 h2 h3 e1 e2 hl hS hSP hT q1 q2 q3 hq hi hP hd hM hfin
  have hb := below_new w (.cells (u8s 64 fun _ => 0) 26)
  have hZ := Blk.new w (u8s 64 fun _ => 0) 26
  go_enter Try.func33, Try.ntmps33
  go_wp2_with ((with_reducible refine wpl_guard ?_); first | (refine wpl_alloc_arr rfl 26 rfl _ zPoly ?_))
  refine (l01T_any _).mono ?_
  rintro e u1 ⟨rfl, hn⟩
  replace hZ := hZ.keep hn
  replace hb := below_step hb hn
  clear hn
  go_wp2_with fail
  refine (k1.out _).mono ?_
  rintro e u2 ⟨rfl, hn⟩
  replace hZ := hZ.keep hn
  replace hb := below_step hb hn
  clear hn
  go_upto_region 2 with ((with_reducible refine wpl_guard ?_); first | (refine wpl_new1 26 zPoly sPoly _ _ rfl rfl rfl rfl rfl rfl _ rfl ?_; intro w4 hn hN; replace hZ := hZ.keep hn; replace hb := below_step hb hn; clear hn))
  go_wp2_with fail
  refine (l01T_any _).mono ?_
  rintro e u3 ⟨rfl, hn⟩
  replace hZ := hZ.keep hn
  replace hN := hN.keep hn
  replace hb := below_step hb hn
  clear hn
  go_wp2_with fail
  refine (k2.out _).mono ?_
  rintro e u4 ⟨rfl, hn⟩
  replace hZ := hZ.keep hn
  replace hN := hN.keep hn
  replace hb := below_step hb hn
  clear hn
  go_upto_region 3 with ((with_reducible refine wpl_guard ?_); first | (refine wpl_new1 26 zPoly sPoly _ _ rfl rfl rfl rfl rfl rfl _ rfl ?_; intro w5 hn hM; replace hZ := hZ.keep hn; replace hN := hN.keep hn; replace hb := below_step hb hn; clear hn))
  go_wp2_with ((with_reducible refine wpl_guard ?_); first | (refine wpl_load_arr rfl 26 _ rfl _ rfl _ _ hN _ _ uPoly sPoly ?_) | (refine wpl_load_arr rfl 26 _ rfl _ rfl _ _ hM _ _ uPoly sPoly ?_))
  refine (k3.out _).mono ?_
  rintro e u5 ⟨rfl, hn⟩
  replace hZ := hZ.keep hn
  replace hN := hN.keep hn
  replace hM := hM.keep hn
  replace hb := below_step hb hn
  clear hn
  cases d
  · go_wp2_with ((with_reducible refine wpl_guard ?_); first | (refine wpl_store_arr rfl 26 _ _ rfl _ rfl _ rfl _ _ hZ sPoly (by simp only [u8s_size]) (u8s_oneCell _ _) ?_))
    exact bodyPost_ret (res_ct (x := .bool false) rfl rfl (hZ.setRow_same (cs := u8s 64 (cf M))) uPoly sPoly rfl) rfl ⟨⟨M, rfl, by first | exact hfH.out | exact fun _ => hfH.out trivial | exact fun _ => hfH.out | (intro h; cases h; done)⟩, below_setRow hb (by omega) _⟩
  · go_wp2_with ((with_reducible refine wpl_guard ?_); first | (refine wpl_store_arr rfl 26 _ _ rfl _ rfl _ rfl _ _ hZ sPoly (by simp only [u8s_size]) (u8s_oneCell _ _) ?_))
    exact bodyPost_ret (res_ct (x := .bool true) rfl rfl (hZ.setRow_same (cs := u8s 64 (cf M))) uPoly sPoly rfl) rfl ⟨⟨M, rfl, by first | exact hfH.out | exact fun _ => hfH.out trivial | exact fun _ => hfH.out | (intro h; cases h; done)⟩, below_setRow hb (by omega) _⟩

def brkF (b c : Bool) (M : List Int) : Nat → Int := if b then (if c then toldF M else fun _ => 0) else fun _ => 0
def brkC (b c : Bool) (M : List Int) : Int := if b then (if c then toldC M else 2) else 1

set_option maxRecDepth 20000 in
set_option maxHeartbeats 2000000 in
theorem specBracketOf_any (p a : Int) (b c : Bool) (M : List Int) (w : World) (hb : decide (Pr p) = b) (hc : decide (1 ≤ a ∧ a ≤ 6) = c) (hM : ∀ i : Nat, a = i → brk p (p.toNat ^ i) = M) :
    Calls Try.prog 15 #[.int .i64 p, .int .i64 a] w fun e w' => e = .returned (.tuple #[.agg (u8s 64 (brkF b c M)), .int .i64 (brkC b c M)]) ∧ Below w.heap.size w w' := by
  have hbH := Lib.hid hb
  have hcH := Lib.hid hc
  have hMH := Lib.hid hM
  clear hb hc hM
  have hb := below_new w (.cells (u8s 64 fun _ => 0) 26)
  have hZ := Blk.new w (u8s 64 fun _ => 0) 26
  go_enter Try.func15, Try.ntmps15
  go_wp2_with ((with_reducible refine wpl_guard ?_); first | (refine wpl_alloc_arr rfl 26 rfl _ zPoly ?_))
  refine (l04Range_any p a 1 6 _ b c hbH.out hcH.out).mono ?_
  rintro e u1 ⟨rfl, rfl⟩
  cases b
  · go_wp2_with ((with_reducible refine wpl_guard ?_); first | (refine wpl_build_zero rfl 26 64 5 rfl _ uPoly sByte zPoly ?_) | (refine wpl_store_arr rfl 26 _ _ rfl _ rfl _ rfl _ _ hZ sPoly (by simp only [u8s_size]) (u8s_oneCell _ _) ?_))
    exact bodyPost_ret (res_ct (x := .int .i64 1) rfl rfl (hZ.setRow_same (cs := u8s 64 fun _ => 0)) uPoly sPoly rfl) rfl ⟨rfl, below_setRow hb (by omega) _⟩
  cases c
  · go_wp2_with ((with_reducible refine wpl_guard ?_); first | (refine wpl_build_zero rfl 26 64 5 rfl _ uPoly sByte zPoly ?_) | (refine wpl_store_arr rfl 26 _ _ rfl _ rfl _ rfl _ _ hZ sPoly (by simp only [u8s_size]) (u8s_oneCell _ _) ?_))
    exact bodyPost_ret (res_ct (x := .int .i64 2) rfl rfl (hZ.setRow_same (cs := u8s 64 fun _ => 0)) uPoly sPoly rfl) rfl ⟨rfl, below_setRow hb (by omega) _⟩
  have hp := of_decide_eq_true hbH.out
  have ha := of_decide_eq_true hcH.out
  obtain ⟨i, rfl⟩ := Int.eq_ofNat_of_zero_le (show 0 ≤ a by omega)
  have hi : i ≤ 6 := by omega
  obtain ⟨P, hP⟩ := Int.eq_ofNat_of_zero_le (show 0 ≤ p by have := hp.pos; omega)
  have hM2 := hMH.out i rfl
  rw [show p.toNat = P by omega] at hM2
  obtain ⟨q, hq⟩ : ∃ q, q = P ^ i := ⟨_, rfl⟩
  rw [← hq] at hM2
  obtain ⟨q1, q2, q3⟩ := q_bounds hp hP hq hi
  have hp2 := hp.pos
  have hq2 : 2 ≤ q := by
    have : P ^ 1 ≤ P ^ i := Nat.pow_le_pow_right (by omega) (by omega)
    rw [Nat.pow_one] at this; omega
  have hlen := brk_length hp2.1 hq2
  rw [hM2] at hlen
  obtain ⟨d, hd⟩ : ∃ d, decide (q ≤ 63) = d := ⟨_, rfl⟩
  have hbr := Lib.hid (fun w => l04Bracket_any p P i q w hp hP hq hi d hd)
  have hf : d = false → toldF M = (fun _ => 0) ∧ toldC M = 3 := fun e => by
    have h := of_decide_eq_false (hd.trans e)
    exact ⟨if_neg (by omega), if_neg (by omega)⟩
  have ht : d = true → toldF M = cf M ∧ toldC M = 0 := fun e => by
    have h := of_decide_eq_true (hd.trans e)
    exact ⟨if_pos (by omega), if_pos (by omega)⟩
  have hfH := Lib.hid hf
  have htH := Lib.hid ht
  have hMb := Lib.hid hM2
  clear hf ht hd hlen hq2 hp2 q1 q2 q3 hq hM2 hP hi ha hp hbH hcH hMH
  go_wp2_with fail
  refine (hbr.out _).mono ?_
  rintro e u5 ⟨⟨D, rfl, hD⟩, hn⟩
  have hDH := Lib.hid hD
  clear hD
  replace hZ := hZ.keep hn
  replace hb := below_step hb hn
  clear hn
  go_upto_region 5 with ((with_reducible refine wpl_guard ?_); first | (refine wpl_new1 26 zPoly sPoly _ _ rfl rfl rfl rfl rfl rfl _ rfl ?_; intro w4 hn hN; replace hZ := hZ.keep hn; replace hb := below_step hb hn; clear hn))
  cases d
  · have hz := Lib.hid (hfH.out (by first | rfl | trivial))
    go_wp2_with ((with_reducible refine wpl_guard ?_); first | (refine wpl_build_zero rfl 26 64 5 rfl _ uPoly sByte zPoly ?_) | (refine wpl_store_arr rfl 26 _ _ rfl _ rfl _ rfl _ _ hZ sPoly (by simp only [u8s_size]) (u8s_oneCell _ _) ?_))
    exact bodyPost_ret (res_ct (x := .int .i64 3) rfl rfl (hZ.setRow_same (cs := u8s 64 fun _ => 0)) uPoly sPoly rfl) rfl ⟨by show _ = Ending.returned (.tuple #[.agg (u8s 64 (toldF M)), .int .i64 (toldC M)]); rw [hz.out.1, hz.out.2], below_setRow hb (by omega) _⟩
  · have hz := Lib.hid (htH.out (by first | rfl | trivial))
    have hDM := (hDH.out (by first | rfl | trivial)).trans hMb.out
    subst hDM
    go_wp2_with ((with_reducible refine wpl_guard ?_); first | (refine wpl_load_arr rfl 26 _ rfl _ rfl _ _ hN _ _ uPoly sPoly ?_) | (refine wpl_store_arr rfl 26 _ _ rfl _ rfl _ rfl _ _ hZ sPoly (by simp only [u8s_size]) (u8s_oneCell _ _) ?_))
    exact bodyPost_ret (res_ct (x := .int .i64 0) rfl rfl (hZ.setRow_same (cs := u8s 64 (cf D))) uPoly sPoly rfl) rfl ⟨by show _ = Ending.returned (.tuple #[.agg (u8s 64 (toldF D)), .int .i64 (toldC D)]); rw [hz.out.1, hz.out.2], below_setRow hb (by omega) _⟩

set_option maxRecDepth 20000 in
set_option maxHeartbeats 2000000 in
theorem implBracketOf_any (p a : Int) (b c : Bool) (M : List Int) (w : World) (hb : decide (Pr p) = b) (hc : decide (1 ≤ a ∧ a ≤ 6) = c) (hM : ∀ i : Nat, a = i → brk p (p.toNat ^ i) = M) :
    Calls Try.prog 16 #[.int .i64 p, .int .i64 a] w fun e w' => e = .returned (.tuple #[.agg (u8s 64 (brkF b c M)), .int .i64 (brkC b c M)]) ∧ Below w.heap.size w w' := by
  have hbH := Lib.hid hb
  have hcH := Lib.hid hc
  have hMH := Lib.hid hM
  clear hb hc hM
  have hb := below_new w (.cells (u8s 64 fun _ => 0) 26)
  have hZ := Blk.new w (u8s 64 fun _ => 0) 26
  go_enter Try.func16, Try.ntmps16
  go_wp2_with ((with_reducible refine wpl_guard ?_); first | (refine wpl_alloc_arr rfl 26 rfl _ zPoly ?_))
  refine (numberCode_any p a 1 6 _ b c hbH.out hcH.out).mono ?_
  rintro e u1 ⟨rfl, rfl⟩
  cases b
  · go_wp2_with ((with_reducible refine wpl_guard ?_); first | (refine wpl_build_zero rfl 26 64 5 rfl _ uPoly sByte zPoly ?_) | (refine wpl_store_arr rfl 26 _ _ rfl _ rfl _ rfl _ _ hZ sPoly (by simp only [u8s_size]) (u8s_oneCell _ _) ?_))
    exact bodyPost_ret (res_ct (x := .int .i64 1) rfl rfl (hZ.setRow_same (cs := u8s 64 fun _ => 0)) uPoly sPoly rfl) rfl ⟨rfl, below_setRow hb (by omega) _⟩
  cases c
  · go_wp2_with ((with_reducible refine wpl_guard ?_); first | (refine wpl_build_zero rfl 26 64 5 rfl _ uPoly sByte zPoly ?_) | (refine wpl_store_arr rfl 26 _ _ rfl _ rfl _ rfl _ _ hZ sPoly (by simp only [u8s_size]) (u8s_oneCell _ _) ?_))
    exact bodyPost_ret (res_ct (x := .int .i64 2) rfl rfl (hZ.setRow_same (cs := u8s 64 fun _ => 0)) uPoly sPoly rfl) rfl ⟨rfl, below_setRow hb (by omega) _⟩
  have hp := of_decide_eq_true hbH.out
  have ha := of_decide_eq_true hcH.out
  obtain ⟨i, rfl⟩ := Int.eq_ofNat_of_zero_le (show 0 ≤ a by omega)
  have hi : i ≤ 6 := by omega
  obtain ⟨P, hP⟩ := Int.eq_ofNat_of_zero_le (show 0 ≤ p by have := hp.pos; omega)
  have hM2 := hMH.out i rfl
  rw [show p.toNat = P by omega] at hM2
  obtain ⟨q, hq⟩ : ∃ q, q = P ^ i := ⟨_, rfl⟩
  rw [← hq] at hM2
  obtain ⟨q1, q2, q3⟩ := q_bounds hp hP hq hi
  have hp2 := hp.pos
  have hq2 : 2 ≤ q := by
    have : P ^ 1 ≤ P ^ i := Nat.pow_le_pow_right (by omega) (by omega)
    rw [Nat.pow_one] at this; omega
  have hlen := brk_length hp2.1 hq2
  rw [hM2] at hlen
  have hbr := fun w => bracket_any p P i q w hp hP hq hi
  rw [hM2] at hbr
  have hMP : Po p M := hM2 ▸ addp_Po (by omega) _ _ _
  have htd := Lib.hid (fun v w (h : IsRow w v M) => told_any v M w h (fun i => By_of_Po hp hMP i))
  have hbrH := Lib.hid hbr
  clear hbr hMP hlen hq2 hp2 q1 q2 q3 hq hM2 hP hi ha hp hbH hcH hMH
  go_wp2_with fail
  refine (hbrH.out _).mono ?_
  rintro e u5 ⟨v5, rfl, hr, hn⟩
  have k1 := Lib.hid hr
  clear hr
  replace hZ := hZ.keep hn
  replace hb := below_step hb hn
  clear hn
  go_wp2_with fail
  refine (htd.out _ _ k1.out).mono ?_
  rintro e u2 ⟨rfl, hn⟩
  replace hZ := hZ.keep hn
  replace hb := below_step hb hn
  clear hn
  go_wp2_with ((with_reducible refine wpl_guard ?_); first | (refine wpl_store_arr rfl 26 _ _ rfl _ rfl _ rfl _ _ hZ sPoly (by simp only [u8s_size]) (u8s_oneCell _ _) ?_))
  exact bodyPost_ret (res_ct (x := .int .i64 (toldC M)) rfl rfl (hZ.setRow_same (cs := u8s 64 (toldF M))) uPoly sPoly rfl) rfl ⟨rfl, below_setRow hb (by omega) _⟩

theorem BracketOf_pair (p a : Int) (_ : (Lit.int .i64 p).wf = true) (_ : (Lit.int .i64 a).wf = true) : ∃ (r0 : Nat → Int) (r1 : Int),
    (∀ w, Calls Try.prog 15 #[.int .i64 p, .int .i64 a] w fun e w' => e = .returned (.tuple #[.agg (u8s 64 r0), .int .i64 r1]) ∧ Below w.heap.size w w') ∧
    (∀ w, Calls Try.prog 16 #[.int .i64 p, .int .i64 a] w fun e w' => e = .returned (.tuple #[.agg (u8s 64 r0), .int .i64 r1]) ∧ Below w.heap.size w w') := by
  have hM : ∀ i : Nat, a = i → brk p (p.toNat ^ i) = brk p (p.toNat ^ a.toNat) := fun i e => by rw [e, Int.toNat_natCast]
  exact ⟨_, _, fun w => specBracketOf_any p a _ _ _ w rfl rfl hM, fun w => implBracketOf_any p a _ _ _ w rfl rfl hM⟩
end Go.Proofs.Ytionaenmjndncaa
