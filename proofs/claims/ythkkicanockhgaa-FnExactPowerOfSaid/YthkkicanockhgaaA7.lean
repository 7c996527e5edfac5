/- Walks: a row put in the place of T. -/
import Derived.Test.YthkkicanockhgaaA6
import Derived.Test.YthkkicanockhgaaCom
import Derived.Test.YthkkicanockhgaaS4
import Derived.Test.YthkkicanockhgaaInv6
set_option linter.unusedVariables false
set_option linter.unusedSimpArgs false
namespace Go.Proofs.Ythkkicanockhgaa
open Go.RowKit
theorem zInt : (Try.prog.info? 2).bind (·.zero) = some (.int .i64 0) := by kernel_rfl
theorem uInt : Try.prog.underlying 2 = some (.int .i64) := by kernel_rfl
theorem cmpp_len_le (p : Int) (ys : List Int) : ∀ xs : List Int, (cmpp p ys xs).length ≤ xs.length * ys.length + 1
  | [] => by show ([] : List Int).length ≤ _; simp
  | c :: tl => by
    have ih := cmpp_len_le p ys tl
    have h1 := addp_length p (mulp p (cmpp p ys tl) ys) [c] 1
    have h2 := mulp_length_le p (cmpp p ys tl) ys
    show (addp p (mulp p (cmpp p ys tl) ys) [c] 1).length ≤ _
    have h3 : max (mulp p (cmpp p ys tl) ys).length [c].length ≤ (mulp p (cmpp p ys tl) ys).length + 1 := Nat.max_le.2 ⟨by omega, by simp⟩
    by_cases e : (mulp p (cmpp p ys tl) ys).length = 0
    · rw [e] at h1 h3; simp at h1; omega
    · have h4 : max (mulp p (cmpp p ys tl) ys).length [c].length = (mulp p (cmpp p ys tl) ys).length := by rw [Nat.max_eq_left]; simp; omega
      rw [h4] at h1
      rw [List.length_cons, Nat.add_mul, Nat.one_mul]
      omega

set_option maxRecDepth 20000 in
set_option maxHeartbeats 2000000 in
theorem compose_any (va vb : Value) (xs ys : List Int) (p : Int) (w : World) (hp : Pr p) (ha : IsRow w va xs) (hb : IsRow w vb ys) (hxa : Po p xs) (hxb : Po p ys) (la : xs.length ≤ 64) (lb : ys.length ≤ 64) :
    Calls Try.prog 62 #[.int .i64 p, va, vb] w fun e w' => ∃ v, e = .returned v ∧ IsRow w' v (cmpp p ys xs) ∧ Below w.heap.size w w' := by
  have hp2 := hp.pos
  have hprH := Lib.hid hp
  have hxP := Lib.hid hxa
  have hyP := Lib.hid hxb
  have hyl := Lib.hid lb
  have hbr := Lib.hid hb
  obtain ⟨oa, ca, rfl, _, _, hca⟩ := ha
  have hcaH := Lib.hid hca
  clear hp hb hxa hxb lb hca hp2
  go_enter Try.func62, Try.ntmps62
  go_wp2_with fail
  go_loopw [7, 8] (fun vo i wr => ∃ k : Nat, k ≤ xs.length ∧ i = .int .i64 ((k : Int) - 1) ∧ Hid (IsRow wr vo (cmpp p ys (xs.drop k))) ∧ Below w.heap.size w wr) (fun _ i _ => (intOf i + 1).toNat)
  case atStart => exact ⟨xs.length, Nat.le_refl _, rfl, by rw [List.drop_length]; exact IsRow_nil w, Below.refl _ _⟩
  case round =>
    obtain ⟨k, hk, hi, hO, hb⟩ := hrel
    by_cases h0 : k = 0
    · subst h0
      simp only [Int.natCast_zero, Int.zero_sub] at hi
      subst hi
      go_wp2_with fail
      go_ret
      exact ⟨_, rfl, hO.out, hb⟩
    · obtain ⟨m, rfl⟩ : ∃ m, k = m + 1 := ⟨k - 1, by omega⟩
      rw [show (((m + 1 : Nat) : Int) - 1) = (m : Int) by omega] at hi
      subst hi
      have hlt : m < xs.length := by omega
      obtain ⟨b1, off1, rfl, hc⟩ := hcaH.out (by omega)
      have hbl1 := block_lt_of_cell (hc m hlt)
      have hcm1 := Lib.hid ((hb.cell hbl1).trans (hc m hlt))
      have hbl1 : b1 < wr.heap.size := Nat.lt_of_lt_of_le hbl1 hb.size
      have hyr := Lib.hid (hbr.out.below hb)
      have hcP := Lib.hid (cmpp_Po (p := p) (by have := hprH.out.pos; omega) ys (xs.drop (m + 1)))
      have hcl := Lib.hid (show (cmpp p ys (xs.drop (m + 1))).length ≤ 5000 by
        have h1 := cmpp_len_le p ys (xs.drop (m + 1))
        have h2 : (xs.drop (m + 1)).length * ys.length ≤ 64 * 64 := Nat.mul_le_mul (by rw [List.length_drop]; omega) hyl.out
        omega)
      have hml := Lib.hid (show (mulp p (cmpp p ys (xs.drop (m + 1))) ys).length ≤ 6000 by
        have := mulp_length_le p (cmpp p ys (xs.drop (m + 1))) ys
        have := hcl.out; have := hyl.out; omega)
      have hcm := Lib.hid (show Md p [cf xs m] from fun i => by
        rw [one_cf]; split
        · exact hxP.out.md m
        · have := hprH.out.pos; omega)
      have hstep := Lib.hid (cmpp_drop p ys xs m hlt).symm
      have hm0 : ¬ (m : Int) < 0 := by omega
      clear hc hcaH hbr
      go_upto_region 5 with (fail)
      refine gen_region2 (ws := w) (w := wr) (B := w.heap.size) (by kernel_rfl) (by kernel_rfl) (by kernel_rfl) (by kernel_rfl)
          (fun i => ([fun v _ => v = .int .i64 p, fun v _ => v = .int .i64 p, fun v w => IsRow w v (cmpp p ys (xs.drop (m + 1))), fun v w => IsRow w v (ys), fun v w => IsRow w v (mulp p (cmpp p ys (xs.drop (m + 1))) ys), fun v _ => v = .slice (some ⟨b1, off1, none⟩) xs.length ca, fun v _ => v = .int .i64 m, fun v _ => v = .pointer (some ⟨b1, off1 + m, none⟩), fun v _ => v = .int .i64 (cf xs m), fun v w => IsRow w v ([cf xs m]), fun v w => IsRow w v (cmpp p ys (xs.drop m)), fun v w => IsRow w v (cmpp p ys (xs.drop m))] : List (Value → World → Prop)).getD i (fun _ _ => True))
          (fun i => ([true, true, false, false, false, true, true, false, false, false, false, false] : List Bool).getD i true)
          0 (fun k => [].getD k 0) (fun k => [].getD k 0) (fun k => [].getD k 0) (fun k => [].getD k 0) (fun k => [].getD k 0) (fun k => [].getD k 0) (fun k => [].getD k (fun _ => 0)) (fun k => [].getD k (fun _ => 0)) (fun k => [].getD k 0) hb (Nat.le_refl _)
          (fun w' => True) trivial (fun w1 w2 h hb => trivial) ?_ ?_ ?_ ?_ ?_ ?_ ?_
      · exact fun k hk => absurd hk (by omega)
      · intro i v w1 w2 h hb
        rcases i with _|_|_|_|_|_|_|_|_|_|_|_|i
        · exact h
        · exact h
        · exact (show IsRow w1 v (cmpp p ys (xs.drop (m + 1))) from h).below hb
        · exact (show IsRow w1 v (ys) from h).below hb
        · exact (show IsRow w1 v (mulp p (cmpp p ys (xs.drop (m + 1))) ys) from h).below hb
        · exact h
        · exact h
        · exact h
        · exact h
        · exact (show IsRow w1 v ([cf xs m]) from h).below hb
        · exact (show IsRow w1 v (cmpp p ys (xs.drop m)) from h).below hb
        · exact (show IsRow w1 v (cmpp p ys (xs.drop m)) from h).below hb
        · exact h
      · exact fun k hk => absurd hk (by omega)
      · exact fun k hk => absurd hk (by omega)
      · kernel_rfl
      · intro i o ho hz a w2 hBs hSx hBl hrd hpar hpar2
        rcases i with _|_|_|_|_|_|_|_|_|_|_|_|i
        · obtain rfl := Option.some.inj ho
          have e0 : a.eval (.tmp 0) = .int .i64 p := hpar 0 _ (by kernel_rfl) (by kernel_rfl)
          exact wpv_of (wp_move _ _ rfl e0) (fun _ _ => rfl)
        · obtain rfl := Option.some.inj ho
          have e0 : a.eval (.tmp 0) = .int .i64 p := hpar 0 _ (by kernel_rfl) (by kernel_rfl)
          exact wpv_of (wp_move _ _ rfl e0) (fun _ _ => rfl)
        · obtain rfl := Option.some.inj ho
          have e7 : a.eval (.tmp 7) = u7 := hpar2 11 _ 7 _ rfl rfl (by kernel_rfl) (by kernel_rfl)
          have h7 := (hO.out).below (hBl rfl)
          exact wpv_of (wp_move _ _ rfl e7) (fun w' hb => h7.below hb)
        · obtain rfl := Option.some.inj ho
          have e2 : a.eval (.tmp 2) = vb := hpar 2 _ (by kernel_rfl) (by kernel_rfl)
          have h2 := (hyr.out).below (hBl rfl)
          exact wpv_of (wp_move _ _ rfl e2) (fun w' hb => h2.below hb)
        · obtain rfl := Option.some.inj ho
          obtain ⟨_, e17⟩ : ∃ _w : World, a.eval (.tmp 17) = .int .i64 p := (hrd 1 _ 17 rfl rfl (by kernel_rfl) (by kernel_rfl) (by decide)).1
          have h18 : (fun v w => IsRow w v (cmpp p ys (xs.drop (m + 1)))) (a.eval (.tmp 18)) w2 := (hrd 2 _ 18 rfl rfl (by kernel_rfl) (by kernel_rfl) (by decide)).2 rfl
          generalize e18 : a.eval (.tmp 18) = v18 at h18
          have h19 : (fun v w => IsRow w v (ys)) (a.eval (.tmp 19)) w2 := (hrd 3 _ 19 rfl rfl (by kernel_rfl) (by kernel_rfl) (by decide)).2 rfl
          generalize e19 : a.eval (.tmp 19) = v19 at h19
          exact wpv_call 51 [.tmp 17, .tmp 18, .tmp 19] _ rfl [.int .i64 p, v18, v19] (by simp only [List.map_cons, List.map_nil, e17, e18, e19]) Try.call51 (times_any _ _ _ _ p w2 hprH.out h18 h19 hcP.out.md hyP.out.md (by have := hcl.out; omega) (by have := hyl.out; omega))
        · obtain rfl := Option.some.inj ho
          have e1 : a.eval (.tmp 1) = .slice (some ⟨b1, off1, none⟩) xs.length ca := hpar 1 _ (by kernel_rfl) (by kernel_rfl)
          exact wpv_of (wp_move _ _ rfl e1) (fun _ _ => rfl)
        · obtain rfl := Option.some.inj ho
          have e8 : a.eval (.tmp 8) = .int .i64 m := hpar 8 _ (by kernel_rfl) (by kernel_rfl)
          exact wpv_of (wp_move _ _ rfl e8) (fun _ _ => rfl)
        · obtain rfl := Option.some.inj ho
          obtain ⟨_, e21⟩ : ∃ _w : World, a.eval (.tmp 21) = .slice (some ⟨b1, off1, none⟩) xs.length ca := (hrd 5 _ 21 rfl rfl (by kernel_rfl) (by kernel_rfl) (by decide)).1
          obtain ⟨_, e22⟩ : ∃ _w : World, a.eval (.tmp 22) = .int .i64 m := (hrd 6 _ 22 rfl rfl (by kernel_rfl) (by kernel_rfl) (by decide)).1
          exact wpv_of (wp_index_row 49 2 _ _ rfl Try.underlying49 sInt b1 off1 xs.length ca m .i64 e21 e22 hlt) (fun _ _ => rfl)
        · obtain rfl := Option.some.inj ho
          obtain ⟨_, e23⟩ : ∃ _w : World, a.eval (.tmp 23) = .pointer (some ⟨b1, off1 + m, none⟩) := (hrd 7 _ 23 rfl rfl (by kernel_rfl) (by kernel_rfl) (by decide)).1
          exact wpv_of (wp_load_cell 2 _ rfl _ e23 .i64 uInt _ (((hBl rfl).cell hbl1).trans hcm1.out)) (fun _ _ => rfl)
        · obtain rfl := Option.some.inj ho
          obtain ⟨_, e24⟩ : ∃ _w : World, a.eval (.tmp 24) = .int .i64 (cf xs m) := (hrd 8 _ 24 rfl rfl (by kernel_rfl) (by kernel_rfl) (by decide)).1
          exact Oper.wp_mono (fun a' w' ⟨v, h1, ⟨g, h2, h3⟩, h4⟩ => ⟨v, h1, h2 ▸ IsRow_one w' g _ h3, h4⟩) (wpv_row_one 49 2 _ rfl Try.underlying49 sInt zInt _ e24)
        · obtain rfl := Option.some.inj ho
          obtain ⟨_, e16⟩ : ∃ _w : World, a.eval (.tmp 16) = .int .i64 p := (hrd 0 _ 16 rfl rfl (by kernel_rfl) (by kernel_rfl) (by decide)).1
          have h20 : (fun v w => IsRow w v (mulp p (cmpp p ys (xs.drop (m + 1))) ys)) (a.eval (.tmp 20)) w2 := (hrd 4 _ 20 rfl rfl (by kernel_rfl) (by kernel_rfl) (by decide)).2 rfl
          generalize e20 : a.eval (.tmp 20) = v20 at h20
          have h25 : (fun v w => IsRow w v ([cf xs m])) (a.eval (.tmp 25)) w2 := (hrd 9 _ 25 rfl rfl (by kernel_rfl) (by kernel_rfl) (by decide)).2 rfl
          generalize e25 : a.eval (.tmp 25) = v25 at h25
          exact wpv_call 48 [.tmp 16, .tmp 20, .tmp 25, .const (.int .i64 1)] _ rfl [.int .i64 p, v20, v25, .int .i64 1] (by simp only [List.map_cons, List.map_nil, e16, e20, e25, eval_const]) Try.call48 ((combine_any _ _ _ [cf xs m] p 1 w2 hprH.out h20 h25 (mulp_Po (by have := hprH.out.pos; omega) _ _).md hcm.out (by decide) (by decide) (by have := hml.out; omega) (by simp)).mono fun _ _ ⟨v, h1, h2, h3⟩ => ⟨v, h1, hstep.out ▸ h2, h3⟩)
        · obtain rfl := Option.some.inj ho
          have h26 : (fun v w => IsRow w v (cmpp p ys (xs.drop m))) (a.eval (.tmp 26)) w2 := (hrd 10 _ 26 rfl rfl (by kernel_rfl) (by kernel_rfl) (by decide)).2 rfl
          generalize e26 : a.eval (.tmp 26) = v26 at h26
          exact wpv_of (wp_assign _ _ rfl e26) (fun w' hb => h26.below hb)
        · simp at ho
      intro vals xE hBx hSx hS0 hcs hrs
      obtain ⟨hBl, hc0⟩ := hS0 rfl
      have e0 : vals 0 = .int .i64 p := hc0 0 (by simp)
      have e1 : vals 1 = .int .i64 p := hc0 1 (by simp)
      have cE2 : (fun v w => IsRow w v (cmpp p ys (xs.drop (m + 1)))) (vals 2) xE := hc0 2 (by simp)
      generalize ev2 : vals 2 = uE2 at cE2
      have cE3 : (fun v w => IsRow w v (ys)) (vals 3) xE := hc0 3 (by simp)
      generalize ev3 : vals 3 = uE3 at cE3
      have cE4 : (fun v w => IsRow w v (mulp p (cmpp p ys (xs.drop (m + 1))) ys)) (vals 4) xE := hc0 4 (by simp)
      generalize ev4 : vals 4 = uE4 at cE4
      have e5 : vals 5 = .slice (some ⟨b1, off1, none⟩) xs.length ca := hc0 5 (by simp)
      have e6 : vals 6 = .int .i64 m := hc0 6 (by simp)
      have e7 : vals 7 = .pointer (some ⟨b1, off1 + m, none⟩) := hc0 7 (by simp)
      have e8 : vals 8 = .int .i64 (cf xs m) := hc0 8 (by simp)
      have cE9 : (fun v w => IsRow w v ([cf xs m])) (vals 9) xE := hc0 9 (by simp)
      generalize ev9 : vals 9 = uE9 at cE9
      have cE10 : (fun v w => IsRow w v (cmpp p ys (xs.drop m))) (vals 10) xE := hc0 10 (by simp)
      generalize ev10 : vals 10 = uE10 at cE10
      have cE11 : (fun v w => IsRow w v (cmpp p ys (xs.drop m))) (vals 11) xE := hc0 11 (by simp)
      generalize ev11 : vals 11 = uE11 at cE11
      simp only [List.length_cons, List.length_nil, Nat.zero_add, Nat.reduceAdd, List.replicate, putAll, if_true, Act.put, List.setIfInBounds_toArray, List.set_cons_zero, List.set_cons_succ, e0, e1, ev2, ev3, ev4, e5, e6, e7, e8, ev9, ev10, ev11]
      clear hcs hrs hS0 hSx e0 e1 ev2 ev3 ev4 e5 e6 e7 e8 ev9 ev10 ev11 hc0
      have hOn := Lib.hid cE11
      have hlm := Lib.hid (Nat.le_of_lt hlt)
      clear cE2 cE3 cE4 cE9 cE10 cE11 hlt hBl
      go_wp2_with fail
      go_roundw
      case rel => exact ⟨m, hlm.out, by go_num, hOn, hBx⟩
      case measure => simp [intOf] <;> omega
end Go.Proofs.Ythkkicanockhgaa
