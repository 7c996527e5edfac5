/- Walks: the reference's ActionOf; lists of polynomials compared. -/
import Derived.Test.YtionaenmjndncabF5
set_option linter.unusedVariables false
set_option linter.unusedSimpArgs false
namespace Go.Proofs.Ytionaenmjndncab
open Go.RowKit
set_option maxRecDepth 20000 in
set_option maxHeartbeats 1000000 in
theorem specActionOf_any (f : Nat → Int) (p : Int) (P : Nat) (w : World) (hf : By f) (hP : Pr p → p = P) (b c t : Bool) (hb : Good p [f] ↔ b = true) (hc : decide (-1 ≤ ((mkp 64 f).length : Int) - 1 ∧ ((mkp 64 f).length : Int) - 1 ≤ 6) = c)
    (ht : AcFit p P (mkp 64 f) ↔ t = true) :
    Calls Try.prog 13 #[.int .i64 p, .agg (u8s 64 f)] w fun e w' => ∃ v, e = .returned (.tuple #[v, .int .i64 (acode b c t)]) ∧ PlS w' w.heap.size v (if b && c && t then (mkp 64 f).length else 0) (acH p P (mkp 64 f)) ∧ Below w.heap.size w w' := by
  have H1 := Lib.hid (fun w => l04Code_any f p w hf b c hb hc)
  have H2 := Lib.hid (fun (hbT : b = true) (hcT : c = true) w => by
    have hg := hb.2 hbT
    have hl := of_decide_eq_true (hc.trans hcT)
    have h := l04Action_any (mkp 64 f) p P w ⟨hg.1, hg.md (by simp) hf, mkp_length 64 f⟩ (hP hg.1) (by omega) t ht
    rw [← u8s_mkp] at h
    exact h)
  have hB := Blk.new w (u8s 64 f) 23
  have hb0 := below_new w (.cells (u8s 64 f) 23)
  obtain ⟨xs, hxs⟩ : ∃ xs, mkp 64 f = xs := ⟨_, rfl⟩
  rw [hxs] at H2 ⊢
  clear hf hb hc hP ht hxs
  go_enter Try.func13, Try.ntmps13
  go_wp2_with (first | (refine wpl_load_arr rfl 23 _ rfl _ rfl _ _ hB _ _ uPoly sPoly ?_))
  refine (H1.out _).mono ?_
  rintro e w1 ⟨rfl, hb1⟩
  have hb2 := below_step hb0 hb1
  have hB1 := hB.keep hb1
  clear hB hb0 hb1
  cases b
  · have hg : (dcode false c != 0) = true := by cases c <;> rfl
    go_wp2_with fail
    go_ret2
    exact ⟨_, rfl, World.ownsRow_nil _ _ _ _, hb2⟩
  · cases c
    · have hg : (dcode true false != 0) = true := rfl
      go_wp2_with fail
      go_ret2
      exact ⟨_, rfl, World.ownsRow_nil _ _ _ _, hb2⟩
    · have hg : (dcode true true != 0) = false := rfl
      go_wp2_with (first | (refine wpl_load_arr rfl 23 _ rfl _ rfl _ _ hB1 _ _ uPoly sPoly ?_))
      refine (H2.out (by first | rfl | trivial) (by first | rfl | trivial) _).mono ?_
      rintro e w2 ⟨v, rfl, hP, hb3⟩
      have hPH := Lib.hid (owns_mono' hP hb2.size)
      have hb4 := below_step hb2 hb3
      clear hP hb2 hb3 hB1
      cases t
      · go_wp2_with fail
        go_ret2
        exact ⟨_, rfl, World.ownsRow_nil _ _ _ _, hb4⟩
      · go_wp2_with fail
        go_ret2
        exact ⟨_, rfl, hPH.out, hb4⟩

set_option maxRecDepth 20000 in
set_option maxHeartbeats 1000000 in
theorem eqPolyS_same (va vb : Value) (n B1 B2 : Nat) (M : Nat → List Int) (w : World) (ha : PlS w B1 va n M) (hbq : PlS w B2 vb n M) (hn : n ≤ 10000000) :
    Calls Try.prog 15 #[va, vb] w fun e w' => e = .returned (.bool true) ∧ Below w.heap.size w w' := by
  by_cases h0 : n = 0
  · subst h0
    obtain ⟨oa, ca, rfl⟩ := ha.slice
    obtain ⟨ob, cb, rfl⟩ := hbq.slice
    clear ha hbq
    go_enter Try.func15, Try.ntmps15
    go_wp2_with fail
    go_loopw [5] (fun i wr => i = .int .i64 0 ∧ Below w.heap.size w wr) (fun _ _ => 0)
    case atStart => exact ⟨rfl, Below.refl _ _⟩
    case round =>
      obtain ⟨rfl, hb⟩ := hrel
      go_wp2_with fail
      go_ret
      exact ⟨rfl, hb⟩
  · obtain ⟨gA, cA, rfl, _⟩ := ha.form (by omega)
    obtain ⟨gB, cB, rfl, _⟩ := hbq.form (by omega)
    have hA := Lib.hid ha
    have hBq := Lib.hid hbq
    clear ha hbq
    go_enter Try.func15, Try.ntmps15
    go_wp2_with fail
    go_loopw [5] (fun i wr => ∃ k : Nat, k ≤ n ∧ i = .int .i64 (k : Int) ∧ Below w.heap.size w wr) (fun i _ => n - (intOf i).toNat)
    case atStart => exact ⟨0, by omega, rfl, Below.refl _ _⟩
    case round =>
      obtain ⟨k, hk, rfl, hb⟩ := hrel
      by_cases hlt : k < n
      · go_wp2_with fail
        go_upto_region 6 with (fail)
        refine gen_guard (w := _) (by kernel_rfl) (by kernel_rfl) (by kernel_rfl)
            (fun i => ([fun zv _ => zv = .slice (some ⟨gA, 0, none⟩) n cA, fun zv _ => zv = .int .i64 ((k : Nat) : Int), fun zv _ => zv = .pointer (some ⟨gA, k * 64, none⟩), fun zv _ => zv = .agg (u8s 64 (cf (M k))), fun zv _ => zv = .slice (some ⟨gB, 0, none⟩) n cB, fun zv _ => zv = .int .i64 ((k : Nat) : Int), fun zv _ => zv = .pointer (some ⟨gB, k * 64, none⟩), fun zv _ => zv = .agg (u8s 64 (cf (M k))), fun zv _ => zv = .bool true, fun zv _ => zv = .bool false] : List (Value → World → Prop)).getD i (fun _ _ => True))
            (fun w' => True) trivial (fun w1 w2 h hb => trivial) ?_ ?_ ?_
        · intro i v w1 w2 h hb
          rcases i with _|_|_|_|_|_|_|_|_|_|i
          · exact h
          · exact h
          · exact h
          · exact h
          · exact h
          · exact h
          · exact h
          · exact h
          · exact h
          · exact h
          · exact h
        · intro i o ho a w2 hBl hSx hrd hpar
          rcases i with _|_|_|_|_|_|_|_|_|_|i
          · obtain rfl := Option.some.inj ho
            refine .inl ⟨rfl, ?_⟩
            have e0 : a.eval (.tmp 0) = .slice (some ⟨gA, 0, none⟩) n cA := hpar 0 _ (by kernel_rfl) (by kernel_rfl)
            exact wpv_of (wp_move _ _ rfl e0) (fun _ _ => rfl)
          · obtain rfl := Option.some.inj ho
            refine .inl ⟨rfl, ?_⟩
            have e5 : a.eval (.tmp 5) = .int .i64 ((k : Nat) : Int) := hpar 5 _ (by kernel_rfl) (by kernel_rfl)
            exact wpv_of (wp_move _ _ rfl e5) (fun _ _ => rfl)
          · obtain rfl := Option.some.inj ho
            refine .inl ⟨rfl, ?_⟩
            have e17 : a.eval (.tmp 17) = .slice (some ⟨gA, 0, none⟩) n cA := hrd 0 _ 17 rfl rfl (by kernel_rfl) (by kernel_rfl)
            have e18 : a.eval (.tmp 18) = .int .i64 ((k : Nat) : Int) := hrd 1 _ 18 rfl rfl (by kernel_rfl) (by kernel_rfl)
            exact wpv_of (wp_index_pl 29 23 64 _ _ rfl uPolys1 sPoly (by decide) gA n cA k .i64 e17 e18 hlt) (fun _ _ => rfl)
          · obtain rfl := Option.some.inj ho
            refine .inl ⟨rfl, ?_⟩
            have e19 : a.eval (.tmp 19) = .pointer (some ⟨gA, k * 64, none⟩) := hrd 2 _ 19 rfl rfl (by kernel_rfl) (by kernel_rfl)
            exact wpv_of (wp_load_pl 23 _ rfl gA k e19 _ (((hA.out.below hb).below hBl).cells k hlt) _ uPoly sPoly) (fun _ _ => rfl)
          · obtain rfl := Option.some.inj ho
            refine .inl ⟨rfl, ?_⟩
            have e1 : a.eval (.tmp 1) = .slice (some ⟨gB, 0, none⟩) n cB := hpar 1 _ (by kernel_rfl) (by kernel_rfl)
            exact wpv_of (wp_move _ _ rfl e1) (fun _ _ => rfl)
          · obtain rfl := Option.some.inj ho
            refine .inl ⟨rfl, ?_⟩
            have e5 : a.eval (.tmp 5) = .int .i64 ((k : Nat) : Int) := hpar 5 _ (by kernel_rfl) (by kernel_rfl)
            exact wpv_of (wp_move _ _ rfl e5) (fun _ _ => rfl)
          · obtain rfl := Option.some.inj ho
            refine .inl ⟨rfl, ?_⟩
            have e21 : a.eval (.tmp 21) = .slice (some ⟨gB, 0, none⟩) n cB := hrd 4 _ 21 rfl rfl (by kernel_rfl) (by kernel_rfl)
            have e22 : a.eval (.tmp 22) = .int .i64 ((k : Nat) : Int) := hrd 5 _ 22 rfl rfl (by kernel_rfl) (by kernel_rfl)
            exact wpv_of (wp_index_pl 29 23 64 _ _ rfl uPolys1 sPoly (by decide) gB n cB k .i64 e21 e22 hlt) (fun _ _ => rfl)
          · obtain rfl := Option.some.inj ho
            refine .inl ⟨rfl, ?_⟩
            have e23 : a.eval (.tmp 23) = .pointer (some ⟨gB, k * 64, none⟩) := hrd 6 _ 23 rfl rfl (by kernel_rfl) (by kernel_rfl)
            exact wpv_of (wp_load_pl 23 _ rfl gB k e23 _ (((hBq.out.below hb).below hBl).cells k hlt) _ uPoly sPoly) (fun _ _ => rfl)
          · obtain rfl := Option.some.inj ho
            refine .inl ⟨rfl, ?_⟩
            have e20 : a.eval (.tmp 20) = .agg (u8s 64 (cf (M k))) := hrd 3 _ 20 rfl rfl (by kernel_rfl) (by kernel_rfl)
            have e24 : a.eval (.tmp 24) = .agg (u8s 64 (cf (M k))) := hrd 7 _ 24 rfl rfl (by kernel_rfl) (by kernel_rfl)
            exact wpv_call 12 [.tmp 20, .tmp 24] _ rfl [.agg (u8s 64 (cf (M k))), .agg (u8s 64 (cf (M k)))] (by simp only [List.map_cons, List.map_nil, e20, e24]) Try.call12 ((eqPoly_same (cf (M k)) w2).mono fun _ _ h => ⟨_, h.1, rfl, h.2⟩)
          · obtain rfl := Option.some.inj ho
            refine .inl ⟨rfl, ?_⟩
            have e25 : a.eval (.tmp 25) = .bool true := hrd 8 _ 25 rfl rfl (by kernel_rfl) (by kernel_rfl)
            exact wpv_of (wp_not _ _ true rfl e25) (fun _ _ => rfl)
          · simp at ho
        intro vals xE hBx hSx hc0
        have e0 : vals 0 = .slice (some ⟨gA, 0, none⟩) n cA := hc0 0 (by simp)
        have e1 : vals 1 = .int .i64 ((k : Nat) : Int) := hc0 1 (by simp)
        have e2 : vals 2 = .pointer (some ⟨gA, k * 64, none⟩) := hc0 2 (by simp)
        have e3 : vals 3 = .agg (u8s 64 (cf (M k))) := hc0 3 (by simp)
        have e4 : vals 4 = .slice (some ⟨gB, 0, none⟩) n cB := hc0 4 (by simp)
        have e5 : vals 5 = .int .i64 ((k : Nat) : Int) := hc0 5 (by simp)
        have e6 : vals 6 = .pointer (some ⟨gB, k * 64, none⟩) := hc0 6 (by simp)
        have e7 : vals 7 = .agg (u8s 64 (cf (M k))) := hc0 7 (by simp)
        have e8 : vals 8 = .bool true := hc0 8 (by simp)
        have e9 : vals 9 = .bool false := hc0 9 (by simp)
        simp only [List.length_cons, List.length_nil, Nat.zero_add, Nat.reduceAdd, List.replicate, putAll, if_true, Act.put, List.setIfInBounds_toArray, List.set_cons_zero, List.set_cons_succ, e0, e1, e2, e3, e4, e5, e6, e7, e8, e9]
        clear hc0 hSx e0 e1 e2 e3 e4 e5 e6 e7 e8 e9
        replace hb := below_step hb hBx
        clear hBx
        go_wp2_with fail
        go_roundw
        case rel => exact ⟨k + 1, by omega, by go_num, hb⟩
        case measure => simp [intOf] <;> omega
      · obtain rfl : k = n := by omega
        go_wp2_with fail
        go_ret
        exact ⟨rfl, hb⟩
end Go.Proofs.Ytionaenmjndncab
