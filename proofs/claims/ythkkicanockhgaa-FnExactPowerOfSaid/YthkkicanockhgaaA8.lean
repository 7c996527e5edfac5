/- Walks: rests and powers of rows. -/
import Derived.Test.YthkkicanockhgaaA6
import Derived.Test.YthkkicanockhgaaPw
set_option linter.unusedVariables false
set_option linter.unusedSimpArgs false
namespace Go.Proofs.Ythkkicanockhgaa
open Go.RowKit

set_option maxHeartbeats 400000 in
theorem rest_any (va vb : Value) (xs ys : List Int) (p : Int) (w : World) (hp : Pr p) (ha : IsRow w va xs) (hb : IsRow w vb ys) (hxa : Po p xs) (hxb : Po p ys) (hne : ys ≠ [])
    (la : xs.length ≤ 1000) (lb : ys.length ≤ 1000) :
    Calls Try.prog 98 #[.int .i64 p, va, vb] w fun e w' => ∃ v, e = .returned v ∧ IsRow w' v (rst p xs ys) ∧ Below w.heap.size w w' := by
  have H := Lib.hid (divide_any va vb xs ys p w hp ha hb hxa hxb hne la lb)
  clear hp ha hb hxa hxb hne la lb
  go_enter Try.func98, Try.ntmps98
  go_wp2_with fail
  refine H.out.mono ?_
  rintro e w1 ⟨v1, v2, rfl, h1, h2, hb1⟩
  have h2H := Lib.hid h2
  clear h1 h2
  go_wp2_with fail
  go_ret
  exact ⟨_, rfl, h2H.out, hb1⟩

theorem and_one_i64 (j : Nat) (h : j ≤ 1000000000000) : bits BinOp.and IntKind.i64 (j : Int) 1 = ((j % 2 : Nat) : Int) := by
  have h1 : (BitVec.ofInt 64 (j : Int)).toNat = j := by
    rw [BitVec.ofInt_natCast, BitVec.toNat_ofNat]; exact Nat.mod_eq_of_lt (by omega)
  show IntKind.i64.wrap ((BitVec.ofInt 64 (j : Int) &&& BitVec.ofInt 64 ((1 : Nat) : Int)).toNat : Int) = _
  rw [BitVec.toNat_and, h1, show (BitVec.ofInt 64 ((1 : Nat) : Int)).toNat = 1 by decide, Nat.and_one_is_mod, IntKind.wrap_i64]
  omega
theorem shr_one (j : Nat) : Int.fdiv (j : Int) 2 = ((j / 2 : Nat) : Int) := by
  rw [Int.fdiv_eq_ediv_of_nonneg _ (by omega)]; omega

/-- The state of the loop. -/
structure PwS (w : World) (vo vb vm : Value) (p : Int) (ms : List Int) (R : List Int) (j : Nat) (o b : List Int) : Prop where
  ro : IsRow w vo o
  rb : IsRow w vb b
  rm : IsRow w vm ms
  po : Po p o
  pb : Po p b
  lo : o.length < ms.length
  lb : b.length < ms.length
  pm : Po p ms
  lm : ms.length ≤ 64
  ne : ms ≠ []
  pr : Pr p
  eq : pwl p ms j o b = R

set_option maxHeartbeats 1000000 in
theorem power_any (va vm : Value) (xs ms : List Int) (k : Nat) (p : Int) (w : World) (hp : Pr p) (ha : IsRow w va xs) (hm : IsRow w vm ms) (hxa : Po p xs) (hxm : Po p ms) (hne : ms ≠ [])
    (la : xs.length ≤ 1000) (lm : ms.length ≤ 64) (hk : k ≤ 1000000000000) :
    Calls Try.prog 71 #[.int .i64 p, va, .int .i64 k, vm] w fun e w' => ∃ v, e = .returned v ∧ IsRow w' v (powp p xs k ms) ∧ Below w.heap.size w w' := by
  have hp2 := hp.pos
  have hlm : 0 < ms.length := List.length_pos_iff.2 hne
  obtain ⟨R, hR⟩ : ∃ R, powp p xs k ms = R := ⟨_, rfl⟩
  rw [hR]
  have hr1 := Lib.hid (fun va w (ha : IsRow w va [1]) (hm : IsRow w vm ms) => rest_any va vm [1] ms p w hp ha hm (one_Po hp2.1) hxm hne (by simp) (by omega))
  have hr2 := Lib.hid (fun va w (ha : IsRow w va xs) (hm : IsRow w vm ms) => rest_any va vm xs ms p w hp ha hm hxa hxm hne la (by omega))
  have hst := Lib.hid (fun (vo vb : Value) (w : World) (ho : IsRow w vo (rst p [1] ms)) (hb : IsRow w vb (rst p xs ms)) (hm : IsRow w vm ms) => PwS.mk (w := w) (p := p) (R := R) (j := k) ho hb hm (rst_Po hp (one_Po hp2.1) hxm hne) (rst_Po hp hxa hxm hne) (rst_lt hp (one_Po hp2.1) hxm hne) (rst_lt hp hxa hxm hne) hxm lm hne hp hR)
  have haH := Lib.hid ha
  have hmH := Lib.hid hm
  have hkH := Lib.hid hk
  clear hp ha hm hxa hxm hne la lm hR hp2 hlm
  go_enter Try.func71, Try.ntmps71
  go_wp2_with fail
  have hb0 := below_new w (Obj.cells #[Value.int IntKind.i64 1] 2)
  refine (hr1.out _ _ (IsRow_one _ _ _ ((Blk.new w #[Value.int IntKind.i64 1] 2).cell 0)) (hmH.out.below hb0)).mono ?_
  rintro e w1 ⟨vo, rfl, ho, hn⟩
  have hoH := Lib.hid ho
  have hb := below_step hb0 hn
  clear ho hn hb0
  go_wp2_with fail
  refine (hr2.out _ _ (haH.out.below hb) (hmH.out.below hb)).mono ?_
  rintro e w2 ⟨vb, rfl, hob, hn⟩
  have hS0 := Lib.hid (hst.out vo vb w2 (hoH.out.below hn) hob (hmH.out.below (below_step hb hn)))
  replace hb := below_step hb hn
  clear hn hob hoH hst haH hmH hr1 hr2
  go_wp2_with fail
  go_loopw [2, 9, 10] (fun kk vo vb wr => ∃ (j : Nat) (o b : List Int), j ≤ k ∧ kk = .int .i64 j ∧ Hid (PwS wr vo vb vm p ms R j o b) ∧ Below w.heap.size w wr) (fun kk _ _ _ => (intOf kk).toNat)
  case atStart => exact ⟨k, _, _, Nat.le_refl _, rfl, hS0, hb⟩
  case round =>
    clear hS0 hb
    obtain ⟨j, o, b, hj, rfl, hS, hb⟩ := hrel
    by_cases h0 : j = 0
    · subst h0
      have hRo := Lib.hid (show o = R from (pwl_zero _ _ _ _).symm.trans hS.out.eq)
      go_wp2_with fail
      go_ret
      exact ⟨_, rfl, hRo.out ▸ hS.out.ro, hb⟩
    · have hj1 : 0 < (j : Int) := by omega
      have hand := and_one_i64 j (by have := hkH.out; omega)
      have hstep := hS.out.eq
      rw [pwl_step _ _ _ _ h0] at hstep
      have hstH := Lib.hid hstep
      have hlt := Lib.hid (show j / 2 < j ∧ j / 2 ≤ k by omega)
      clear hstep
      have hp1 := hS.out.pr.pos
      have hmo : ∀ (va vb : Value) (w : World) (x y : List Int), IsRow w va x → IsRow w vb y → Po p x → Po p y → x.length < ms.length → y.length < ms.length → Calls Try.prog 51 #[.int .i64 p, va, vb] w fun e w' => ∃ v, e = .returned v ∧ IsRow w' v (mulp p x y) ∧ Below w.heap.size w w' := fun va vb w x y h1 h2 h3 h4 h5 h6 =>
        times_any va vb x y p w hS.out.pr h1 h2 h3.md h4.md (by have := hS.out.lm; omega) (by have := hS.out.lm; omega)
      have hrs : ∀ (va : Value) (w : World) (x y : List Int), IsRow w va (mulp p x y) → IsRow w vm ms → x.length < ms.length → y.length < ms.length → Calls Try.prog 98 #[.int .i64 p, va, vm] w fun e w' => ∃ v, e = .returned v ∧ IsRow w' v (mulmod p x y ms) ∧ Below w.heap.size w w' := fun va w x y h1 h2 h5 h6 =>
        rest_any va vm (mulp p x y) ms p w hS.out.pr h1 h2 (mulp_Po (by omega) _ _) hS.out.pm hS.out.ne (by have := mulp_length_le p x y; have := hS.out.lm; omega) (by have := hS.out.lm; omega)
      have HT := Lib.hid hmo
      have HRs := Lib.hid hrs
      clear hp1 hmo hrs
      by_cases h2 : j % 2 = 1
      · have hb1 : (bits BinOp.and IntKind.i64 (j : Int) 1 == 1) = true := by rw [hand, beq_iff_eq]; omega
        clear hand
        have hst2 := hstH.out
        rw [if_pos h2] at hst2
        have hSt := Lib.hid hst2
        clear h2 hst2 hstH
        go_wp2_with fail
        refine (HT.out _ _ _ o b hS.out.ro hS.out.rb hS.out.po hS.out.pb hS.out.lo hS.out.lb).mono ?_
        rintro e w3 ⟨v1, rfl, h1, hn⟩
        have k1 := Lib.hid h1
        have kb := Lib.hid (hS.out.rb.below hn)
        have km := Lib.hid (hS.out.rm.below hn)
        replace hb := below_step hb hn
        clear h1 hn
        go_wp2_with fail
        refine (HRs.out _ _ o b k1.out km.out hS.out.lo hS.out.lb).mono ?_
        rintro e w4 ⟨v2, rfl, h1, hn⟩
        have ko := Lib.hid h1
        replace kb := Lib.hid (kb.out.below hn)
        replace km := Lib.hid (km.out.below hn)
        replace hb := below_step hb hn
        clear h1 hn k1
        go_wp2_with fail
        refine (HT.out _ _ _ b b kb.out kb.out hS.out.pb hS.out.pb hS.out.lb hS.out.lb).mono ?_
        rintro e w5 ⟨v3, rfl, h1, hn⟩
        have k1 := Lib.hid h1
        replace ko := Lib.hid (ko.out.below hn)
        replace km := Lib.hid (km.out.below hn)
        replace hb := below_step hb hn
        clear h1 hn
        go_wp2_with fail
        refine (HRs.out _ _ b b k1.out km.out hS.out.lb hS.out.lb).mono ?_
        rintro e w6 ⟨v4, rfl, h1, hn⟩
        have hSn := Lib.hid (PwS.mk (ko.out.below hn) h1 (km.out.below hn) (mulmod_Po hS.out.pr hS.out.pm hS.out.ne) (mulmod_Po hS.out.pr hS.out.pm hS.out.ne) (mulmod_lt hS.out.pr hS.out.pm hS.out.ne) (mulmod_lt hS.out.pr hS.out.pm hS.out.ne) hS.out.pm hS.out.lm hS.out.ne hS.out.pr hSt.out)
        replace hb := below_step hb hn
        clear h1 hn k1 ko km kb
        go_wp2_with fail
        go_roundw
        case rel => exact ⟨j / 2, _, _, hlt.out.2, by first | go_num | (congr 1; exact shr_one j) | (congr 1; omega), hSn, hb⟩
        case measure => have h9 := hlt.out; have h8 := shr_one j; simp only [intOf]; omega
      · have hb1 : (bits BinOp.and IntKind.i64 (j : Int) 1 == 1) = false := by rw [hand, beq_eq_false_iff_ne]; omega
        clear hand
        have hst2 := hstH.out
        rw [if_neg h2] at hst2
        have hSt := Lib.hid hst2
        clear h2 hst2 hstH
        go_wp2_with fail
        refine (HT.out _ _ _ b b hS.out.rb hS.out.rb hS.out.pb hS.out.pb hS.out.lb hS.out.lb).mono ?_
        rintro e w5 ⟨v3, rfl, h1, hn⟩
        have k1 := Lib.hid h1
        have ko := Lib.hid (hS.out.ro.below hn)
        have km := Lib.hid (hS.out.rm.below hn)
        replace hb := below_step hb hn
        clear h1 hn
        go_wp2_with fail
        refine (HRs.out _ _ b b k1.out km.out hS.out.lb hS.out.lb).mono ?_
        rintro e w6 ⟨v4, rfl, h1, hn⟩
        have hSn := Lib.hid (PwS.mk (ko.out.below hn) h1 (km.out.below hn) hS.out.po (mulmod_Po hS.out.pr hS.out.pm hS.out.ne) hS.out.lo (mulmod_lt hS.out.pr hS.out.pm hS.out.ne) hS.out.pm hS.out.lm hS.out.ne hS.out.pr hSt.out)
        replace hb := below_step hb hn
        clear h1 hn k1 ko km
        go_wp2_with fail
        go_roundw
        case rel => exact ⟨j / 2, _, _, hlt.out.2, by first | go_num | (congr 1; exact shr_one j) | (congr 1; omega), hSn, hb⟩
        case measure => have h9 := hlt.out; have h8 := shr_one j; simp only [intOf]; omega
end Go.Proofs.Ythkkicanockhgaa
