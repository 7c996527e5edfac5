/- Walks: lists of forms, checked by the reference; equality of forms. -/
import Derived.Test.YtohgjihccjnheabD5
set_option linter.unusedVariables false
set_option linter.unusedSimpArgs false
namespace Go.Proofs.Ytohgjihccjnheab
open Go.RowKit

set_option maxRecDepth 20000 in
set_option maxHeartbeats 2000000 in
theorem l07Code_any (d F : Nat → Int) (p : Int) (n g : Nat) (b1 bf br m : Bool) (T1 T2 : Nat → Bool) (w : World) (hn : n ≤ 1000) (hT : FrmT p d F n b1 bf br T1 T2) (hB : Blk w g (u8s (n * 128) F) 30) :
    Calls Try.prog 11 #[.int .i64 p, .agg (u8s 64 d), .bool m, .slice (some ⟨g, 0, none⟩) n n] w fun e w' => e = .returned (.int .i64 (codeF b1 bf true m br)) ∧ Below w.heap.size w w' := by
  have hTH := Lib.hid hT
  have hgn := Lib.hid (fun w => l07Genus_any d w hT.hd)
  obtain ⟨hb, hD⟩ := boxes1 w (u8s 64 d) 27
  have hL := hB.keep hb
  clear hT hB
  have hg0 := hL.lt
  go_enter Try.func11, Try.ntmps11
  go_wp2_with ((with_reducible refine wpl_guard ?_); first | (refine wpl_load_arr rfl 27 _ rfl _ rfl _ _ hD _ _ uPoly sPoly ?_))
  refine (l07Is_any d p b1 _ hTH.out.hd hTH.out.disc).mono ?_
  rintro e u1 ⟨rfl, hn⟩
  replace hD := hD.keep hn
  replace hL := hL.keep hn
  replace hb := below_step hb hn
  clear hn
  cases b1
  · go_wp2_with fail
    go_ret
    exact ⟨rfl, hb⟩
  have hDP := (hTH.out.disc.2 (by first | rfl | trivial)).1.1
  have hdP : P64 p (mkp 64 d) := OkP.p64 hDP hTH.out.hd
  have hkk : ∀ k, k < n → ∀ w, Calls Try.prog 26 #[.int .i64 p, .agg (u8s 64 d), .agg (u8s 128 (fmF (fA F k) (fB F k)))] w fun e w' => e = .returned (.bool (T1 k)) ∧ Below w.heap.size w w' := fun k hk w => by
    have := l07Form_any p (mkp 64 d) (fA F k) (fB F k) (T1 k) w hdP (fun j => hTH.out.hF _) (fun j => hTH.out.hF _) (hTH.out.t1 k hk)
    rwa [← u8s_mkp] at this
  have hkkH := Lib.hid hkk
  clear hDP hdP hkk hg0
  go_wp2_with fail
  go_loopw [9] (fun i wr => ∃ k : Nat, k ≤ n ∧ i = .int .i64 k ∧ (∀ j, j < k → T1 j = true) ∧ Blk wr w.heap.size (u8s 64 d) 27 ∧ Blk wr g (u8s (n * 128) F) 30 ∧ Below w.heap.size w wr) (fun i _ => n - (intOf i).toNat)
  case atStart => exact ⟨0, by omega, rfl, fun j hj => absurd hj (by omega), hD, hL, hb⟩
  case round =>
    clear hD hL hb
    obtain ⟨k, hk, rfl, hall, hD, hL, hb⟩ := hrel
    have hallH := Lib.hid hall
    clear hall
    by_cases hlt : k < n
    · have hk1 := hkkH.out k hlt
      obtain ⟨t, ht⟩ : ∃ t, T1 k = t := ⟨_, rfl⟩
      rw [ht] at hk1
      replace hk1 := Lib.hid hk1
      have htH := Lib.hid ht
      clear ht
      cases t
      ·
        have hbf : bf = false := bad_of hTH.out.all1 (fun h => by have := h k hlt; rw [htH.out] at this; cases this)
        subst hbf
        go_upto_region 6 with (fail)
        refine gen_guard (w := _) (by kernel_rfl) (by kernel_rfl) (by kernel_rfl)
            (fun i => ([fun zv _ => zv = .int .i64 p, fun zv _ => zv = .agg (u8s 64 d), fun zv _ => zv = .slice (some ⟨g, 0, none⟩) n n, fun zv _ => zv = .int .i64 k, fun zv _ => zv = .pointer (some ⟨g, k * 128, none⟩), fun zv _ => zv = .agg (u8s 128 (fmF (fA F k) (fB F k))), fun zv _ => zv = .bool false, fun zv _ => zv = .bool true] : List (Value → World → Prop)).getD i (fun _ _ => True))
            (fun w' => Blk w' (w.heap.size) (u8s 64 d) 27 ∧ Blk w' (g) (u8s (n * 128) F) 30 ∧ True) ⟨hD.drew, hL.drew, trivial⟩ (fun w1 w2 h hb => ⟨h.1.keep hb, h.2.1.keep hb, trivial⟩) ?_ ?_ ?_
        · intro i v w1 w2 h hb
          rcases i with _|_|_|_|_|_|_|_|i
          · exact h
          · exact h
          · exact h
          · exact h
          · exact h
          · exact h
          · exact h
          · exact h
          · exact h
        · intro i o ho a w2 hBl hSx hrd hpar
          rcases i with _|_|_|_|_|_|_|_|i
          · obtain rfl := Option.some.inj ho
            refine .inl ⟨rfl, ?_⟩
            have e0 : a.eval (.tmp 0) = .int .i64 p := hpar 0 _ (by kernel_rfl) (by kernel_rfl)
            exact wpv_of (wp_move _ _ rfl e0) (fun _ _ => rfl)
          · obtain rfl := Option.some.inj ho
            refine .inl ⟨rfl, ?_⟩
            exact wpv_of (wp_loadB 27 _ rfl _ (hpar 5 (.pointer (some ⟨w.heap.size, 0, none⟩)) (by kernel_rfl) (by kernel_rfl)) _ _ hSx.1 _ _ uPoly sPoly) (fun _ _ => rfl)
          · obtain rfl := Option.some.inj ho
            refine .inl ⟨rfl, ?_⟩
            have e3 : a.eval (.tmp 3) = .slice (some ⟨g, 0, none⟩) n n := hpar 3 _ (by kernel_rfl) (by kernel_rfl)
            exact wpv_of (wp_move _ _ rfl e3) (fun _ _ => rfl)
          · obtain rfl := Option.some.inj ho
            refine .inl ⟨rfl, ?_⟩
            have e9 : a.eval (.tmp 9) = .int .i64 k := hpar 9 _ (by kernel_rfl) (by kernel_rfl)
            exact wpv_of (wp_move _ _ rfl e9) (fun _ _ => rfl)
          · obtain rfl := Option.some.inj ho
            refine .inl ⟨rfl, ?_⟩
            have e23 : a.eval (.tmp 23) = .slice (some ⟨g, 0, none⟩) n n := hrd 2 _ 23 rfl rfl (by kernel_rfl) (by kernel_rfl)
            have e24 : a.eval (.tmp 24) = .int .i64 k := hrd 3 _ 24 rfl rfl (by kernel_rfl) (by kernel_rfl)
            exact wpv_of (wp_index_rowN 55 30 128 _ _ rfl Try.underlying55 sForm (by decide) g n n k .i64 e23 e24 hlt) (fun _ _ => rfl)
          · obtain rfl := Option.some.inj ho
            refine .inl ⟨rfl, ?_⟩
            have e25 : a.eval (.tmp 25) = .pointer (some ⟨g, k * 128, none⟩) := hrd 4 _ 25 rfl rfl (by kernel_rfl) (by kernel_rfl)
            exact wpv_of (wp_load_form 30 _ rfl g k e25 (n * 128) F _ hSx.2.1 (by omega) tForm sForm) (fun _ _ => rfl)
          · obtain rfl := Option.some.inj ho
            refine .inl ⟨rfl, ?_⟩
            have e21 : a.eval (.tmp 21) = .int .i64 p := hrd 0 _ 21 rfl rfl (by kernel_rfl) (by kernel_rfl)
            have e22 : a.eval (.tmp 22) = .agg (u8s 64 d) := hrd 1 _ 22 rfl rfl (by kernel_rfl) (by kernel_rfl)
            have e26 : a.eval (.tmp 26) = .agg (u8s 128 (fmF (fA F k) (fB F k))) := hrd 5 _ 26 rfl rfl (by kernel_rfl) (by kernel_rfl)
            exact wpv_call 26 [.tmp 21, .tmp 22, .tmp 26] _ rfl [.int .i64 p, .agg (u8s 64 d), .agg (u8s 128 (fmF (fA F k) (fB F k)))] (by simp only [List.map_cons, List.map_nil, e21, e22, e26]) Try.call26 ((hk1.out w2).mono fun _ _ ⟨h1, h2⟩ => ⟨_, h1, rfl, h2⟩)
          · obtain rfl := Option.some.inj ho
            refine .inl ⟨rfl, ?_⟩
            have e27 : a.eval (.tmp 27) = .bool false := hrd 6 _ 27 rfl rfl (by kernel_rfl) (by kernel_rfl)
            exact wpv_of (wp_not _ _ false rfl e27) (fun _ _ => rfl)
          · simp at ho
        intro vals xE hBx hSx hc0
        have e0 : vals 0 = .int .i64 p := hc0 0 (by simp)
        have e1 : vals 1 = .agg (u8s 64 d) := hc0 1 (by simp)
        have e2 : vals 2 = .slice (some ⟨g, 0, none⟩) n n := hc0 2 (by simp)
        have e3 : vals 3 = .int .i64 k := hc0 3 (by simp)
        have e4 : vals 4 = .pointer (some ⟨g, k * 128, none⟩) := hc0 4 (by simp)
        have e5 : vals 5 = .agg (u8s 128 (fmF (fA F k) (fB F k))) := hc0 5 (by simp)
        have e6 : vals 6 = .bool false := hc0 6 (by simp)
        have e7 : vals 7 = .bool true := hc0 7 (by simp)
        simp only [List.length_cons, List.length_nil, Nat.zero_add, Nat.reduceAdd, List.replicate, putAll, if_true, Act.put, List.setIfInBounds_toArray, List.set_cons_zero, List.set_cons_succ, e0, e1, e2, e3, e4, e5, e6, e7]
        replace hD := hSx.1
        replace hL := hSx.2.1
        replace hb := below_step hb hBx
        clear hc0 hSx e0 e1 e2 e3 e4 e5 e6 e7
        go_wp2_with fail
        go_ret
        exact ⟨rfl, hb⟩
      ·
        go_upto_region 6 with (fail)
        refine gen_guard (w := _) (by kernel_rfl) (by kernel_rfl) (by kernel_rfl)
            (fun i => ([fun zv _ => zv = .int .i64 p, fun zv _ => zv = .agg (u8s 64 d), fun zv _ => zv = .slice (some ⟨g, 0, none⟩) n n, fun zv _ => zv = .int .i64 k, fun zv _ => zv = .pointer (some ⟨g, k * 128, none⟩), fun zv _ => zv = .agg (u8s 128 (fmF (fA F k) (fB F k))), fun zv _ => zv = .bool true, fun zv _ => zv = .bool false] : List (Value → World → Prop)).getD i (fun _ _ => True))
            (fun w' => Blk w' (w.heap.size) (u8s 64 d) 27 ∧ Blk w' (g) (u8s (n * 128) F) 30 ∧ True) ⟨hD.drew, hL.drew, trivial⟩ (fun w1 w2 h hb => ⟨h.1.keep hb, h.2.1.keep hb, trivial⟩) ?_ ?_ ?_
        · intro i v w1 w2 h hb
          rcases i with _|_|_|_|_|_|_|_|i
          · exact h
          · exact h
          · exact h
          · exact h
          · exact h
          · exact h
          · exact h
          · exact h
          · exact h
        · intro i o ho a w2 hBl hSx hrd hpar
          rcases i with _|_|_|_|_|_|_|_|i
          · obtain rfl := Option.some.inj ho
            refine .inl ⟨rfl, ?_⟩
            have e0 : a.eval (.tmp 0) = .int .i64 p := hpar 0 _ (by kernel_rfl) (by kernel_rfl)
            exact wpv_of (wp_move _ _ rfl e0) (fun _ _ => rfl)
          · obtain rfl := Option.some.inj ho
            refine .inl ⟨rfl, ?_⟩
            exact wpv_of (wp_loadB 27 _ rfl _ (hpar 5 (.pointer (some ⟨w.heap.size, 0, none⟩)) (by kernel_rfl) (by kernel_rfl)) _ _ hSx.1 _ _ uPoly sPoly) (fun _ _ => rfl)
          · obtain rfl := Option.some.inj ho
            refine .inl ⟨rfl, ?_⟩
            have e3 : a.eval (.tmp 3) = .slice (some ⟨g, 0, none⟩) n n := hpar 3 _ (by kernel_rfl) (by kernel_rfl)
            exact wpv_of (wp_move _ _ rfl e3) (fun _ _ => rfl)
          · obtain rfl := Option.some.inj ho
            refine .inl ⟨rfl, ?_⟩
            have e9 : a.eval (.tmp 9) = .int .i64 k := hpar 9 _ (by kernel_rfl) (by kernel_rfl)
            exact wpv_of (wp_move _ _ rfl e9) (fun _ _ => rfl)
          · obtain rfl := Option.some.inj ho
            refine .inl ⟨rfl, ?_⟩
            have e23 : a.eval (.tmp 23) = .slice (some ⟨g, 0, none⟩) n n := hrd 2 _ 23 rfl rfl (by kernel_rfl) (by kernel_rfl)
            have e24 : a.eval (.tmp 24) = .int .i64 k := hrd 3 _ 24 rfl rfl (by kernel_rfl) (by kernel_rfl)
            exact wpv_of (wp_index_rowN 55 30 128 _ _ rfl Try.underlying55 sForm (by decide) g n n k .i64 e23 e24 hlt) (fun _ _ => rfl)
          · obtain rfl := Option.some.inj ho
            refine .inl ⟨rfl, ?_⟩
            have e25 : a.eval (.tmp 25) = .pointer (some ⟨g, k * 128, none⟩) := hrd 4 _ 25 rfl rfl (by kernel_rfl) (by kernel_rfl)
            exact wpv_of (wp_load_form 30 _ rfl g k e25 (n * 128) F _ hSx.2.1 (by omega) tForm sForm) (fun _ _ => rfl)
          · obtain rfl := Option.some.inj ho
            refine .inl ⟨rfl, ?_⟩
            have e21 : a.eval (.tmp 21) = .int .i64 p := hrd 0 _ 21 rfl rfl (by kernel_rfl) (by kernel_rfl)
            have e22 : a.eval (.tmp 22) = .agg (u8s 64 d) := hrd 1 _ 22 rfl rfl (by kernel_rfl) (by kernel_rfl)
            have e26 : a.eval (.tmp 26) = .agg (u8s 128 (fmF (fA F k) (fB F k))) := hrd 5 _ 26 rfl rfl (by kernel_rfl) (by kernel_rfl)
            exact wpv_call 26 [.tmp 21, .tmp 22, .tmp 26] _ rfl [.int .i64 p, .agg (u8s 64 d), .agg (u8s 128 (fmF (fA F k) (fB F k)))] (by simp only [List.map_cons, List.map_nil, e21, e22, e26]) Try.call26 ((hk1.out w2).mono fun _ _ ⟨h1, h2⟩ => ⟨_, h1, rfl, h2⟩)
          · obtain rfl := Option.some.inj ho
            refine .inl ⟨rfl, ?_⟩
            have e27 : a.eval (.tmp 27) = .bool true := hrd 6 _ 27 rfl rfl (by kernel_rfl) (by kernel_rfl)
            exact wpv_of (wp_not _ _ true rfl e27) (fun _ _ => rfl)
          · simp at ho
        intro vals xE hBx hSx hc0
        have e0 : vals 0 = .int .i64 p := hc0 0 (by simp)
        have e1 : vals 1 = .agg (u8s 64 d) := hc0 1 (by simp)
        have e2 : vals 2 = .slice (some ⟨g, 0, none⟩) n n := hc0 2 (by simp)
        have e3 : vals 3 = .int .i64 k := hc0 3 (by simp)
        have e4 : vals 4 = .pointer (some ⟨g, k * 128, none⟩) := hc0 4 (by simp)
        have e5 : vals 5 = .agg (u8s 128 (fmF (fA F k) (fB F k))) := hc0 5 (by simp)
        have e6 : vals 6 = .bool true := hc0 6 (by simp)
        have e7 : vals 7 = .bool false := hc0 7 (by simp)
        simp only [List.length_cons, List.length_nil, Nat.zero_add, Nat.reduceAdd, List.replicate, putAll, if_true, Act.put, List.setIfInBounds_toArray, List.set_cons_zero, List.set_cons_succ, e0, e1, e2, e3, e4, e5, e6, e7]
        replace hD := hSx.1
        replace hL := hSx.2.1
        replace hb := below_step hb hBx
        clear hc0 hSx e0 e1 e2 e3 e4 e5 e6 e7
        go_wp2_with fail
        go_roundw
        case rel => exact ⟨k + 1, by omega, by go_num, fun j hj => by
          by_cases e1 : j = k
          · subst e1; exact htH.out
          · exact hallH.out j (by omega), hD, hL, hb⟩
        case measure => simp [intOf] <;> omega
    · obtain rfl : n = k := by omega
      have hbf : bf = true := hTH.out.all1.1 hallH.out
      subst hbf
      clear hallH hlt hk
      go_wp2_with fail
      go_loopw [10] (fun i wr => ∃ k : Nat, k ≤ n ∧ i = .int .i64 k ∧ (m = true → ∀ j, j < k → T2 j = true) ∧ Blk wr w.heap.size (u8s 64 d) 27 ∧ Blk wr g (u8s (n * 128) F) 30 ∧ Below w.heap.size w wr) (fun i _ => n - (intOf i).toNat)
      case atStart => exact ⟨0, by omega, rfl, fun _ j hj => absurd hj (by omega), hD, hL, hb⟩
      case round =>
        clear hD hL hb
        obtain ⟨k, hk, rfl, hall, hD, hL, hb⟩ := hrel
        have hallH := Lib.hid hall
        clear hall
        cases m
        · by_cases hlt : k < n
          · go_wp2_with fail
            go_ret
            exact ⟨rfl, hb⟩
          · go_wp2_with fail
            go_ret
            exact ⟨rfl, hb⟩
        by_cases hlt : k < n
        · have ht2 := hTH.out.t2 k hlt
          have hk2 := Lib.hid (fun w => l01Deg_any (fA F k) w (fun j _ => hTH.out.hF _))
          have hk3 : cmpB .gtr (((mkp 64 (fA F k)).length : Int) - 1) (gns (mkp 64 d)) = !T2 k := by
            rw [← ht2]
            show decide (_ > _) = _
            by_cases h : ((mkp 64 (fA F k)).length : Int) - 1 ≤ gns (mkp 64 d)
            · rw [decide_eq_false (by omega), decide_eq_true h]; rfl
            · rw [decide_eq_true (by omega), decide_eq_false h]; rfl
          obtain ⟨t, ht⟩ : ∃ t, T2 k = t := ⟨_, rfl⟩
          rw [ht] at hk3
          have htH := Lib.hid ht
          clear ht ht2
          cases t
          ·
            replace hk3 := Lib.hid (show cmpB .gtr (((mkp 64 (fA F k)).length : Int) - 1) (gns (mkp 64 d)) = true from hk3)
            have hbr : br = false := bad_of hTH.out.all2 (fun h => by have := h k hlt; rw [htH.out] at this; cases this)
            subst hbr
            go_upto_region 11 with (fail)
            refine gen_guard (w := _) (by kernel_rfl) (by kernel_rfl) (by kernel_rfl)
                (fun i => ([fun zv _ => zv = .slice (some ⟨g, 0, none⟩) n n, fun zv _ => zv = .int .i64 k, fun zv _ => zv = .pointer (some ⟨g, k * 128, none⟩), fun zv _ => zv = .pointer (some ⟨g, k * 128 + 0, none⟩), fun zv _ => zv = .agg (u8s 64 (fA F k)), fun zv _ => zv = .int .i64 (((mkp 64 (fA F k)).length : Int) - 1), fun zv _ => zv = .agg (u8s 64 d), fun zv _ => zv = .int .i64 (gns (mkp 64 d)), fun zv _ => zv = .bool true] : List (Value → World → Prop)).getD i (fun _ _ => True))
                (fun w' => Blk w' (w.heap.size) (u8s 64 d) 27 ∧ Blk w' (g) (u8s (n * 128) F) 30 ∧ True) ⟨hD.drew, hL.drew, trivial⟩ (fun w1 w2 h hb => ⟨h.1.keep hb, h.2.1.keep hb, trivial⟩) ?_ ?_ ?_
            · intro i v w1 w2 h hb
              rcases i with _|_|_|_|_|_|_|_|_|i
              · exact h
              · exact h
              · exact h
              · exact h
              · exact h
              · exact h
              · exact h
              · exact h
              · exact h
              · exact h
            · intro i o ho a w2 hBl hSx hrd hpar
              rcases i with _|_|_|_|_|_|_|_|_|i
              · obtain rfl := Option.some.inj ho
                refine .inl ⟨rfl, ?_⟩
                have e3 : a.eval (.tmp 3) = .slice (some ⟨g, 0, none⟩) n n := hpar 3 _ (by kernel_rfl) (by kernel_rfl)
                exact wpv_of (wp_move _ _ rfl e3) (fun _ _ => rfl)
              · obtain rfl := Option.some.inj ho
                refine .inl ⟨rfl, ?_⟩
                have e10 : a.eval (.tmp 10) = .int .i64 k := hpar 10 _ (by kernel_rfl) (by kernel_rfl)
                exact wpv_of (wp_move _ _ rfl e10) (fun _ _ => rfl)
              · obtain rfl := Option.some.inj ho
                refine .inl ⟨rfl, ?_⟩
                have e38 : a.eval (.tmp 38) = .slice (some ⟨g, 0, none⟩) n n := hrd 0 _ 38 rfl rfl (by kernel_rfl) (by kernel_rfl)
                have e39 : a.eval (.tmp 39) = .int .i64 k := hrd 1 _ 39 rfl rfl (by kernel_rfl) (by kernel_rfl)
                exact wpv_of (wp_index_rowN 55 30 128 _ _ rfl Try.underlying55 sForm (by decide) g n n k .i64 e38 e39 hlt) (fun _ _ => rfl)
              · obtain rfl := Option.some.inj ho
                refine .inl ⟨rfl, ?_⟩
                have e40 : a.eval (.tmp 40) = .pointer (some ⟨g, k * 128, none⟩) := hrd 2 _ 40 rfl rfl (by kernel_rfl) (by kernel_rfl)
                exact wpv_of (wp_fieldB 30 _ 0 rfl 0 64 fForm0 g (k * 128) e40) (fun _ _ => rfl)
              · obtain rfl := Option.some.inj ho
                refine .inl ⟨rfl, ?_⟩
                have e41 : a.eval (.tmp 41) = .pointer (some ⟨g, k * 128 + 0, none⟩) := hrd 3 _ 41 rfl rfl (by kernel_rfl) (by kernel_rfl)
                exact wpv_of (wp_load_A' 27 _ rfl g k e41 (n * 128) 5 F _ hSx.2.1 (by omega) uPoly sPoly) (fun _ _ => rfl)
              · obtain rfl := Option.some.inj ho
                refine .inl ⟨rfl, ?_⟩
                have e42 : a.eval (.tmp 42) = .agg (u8s 64 (fA F k)) := hrd 4 _ 42 rfl rfl (by kernel_rfl) (by kernel_rfl)
                exact wpv_call 27 [.tmp 42] _ rfl [.agg (u8s 64 (fA F k))] (by simp only [List.map_cons, List.map_nil, e42]) Try.call27 ((hk2.out w2).mono fun _ _ ⟨h1, h2⟩ => ⟨_, h1, rfl, h2⟩)
              · obtain rfl := Option.some.inj ho
                refine .inl ⟨rfl, ?_⟩
                exact wpv_of (wp_loadB 27 _ rfl _ (hpar 5 (.pointer (some ⟨w.heap.size, 0, none⟩)) (by kernel_rfl) (by kernel_rfl)) _ _ hSx.1 _ _ uPoly sPoly) (fun _ _ => rfl)
              · obtain rfl := Option.some.inj ho
                refine .inl ⟨rfl, ?_⟩
                have e44 : a.eval (.tmp 44) = .agg (u8s 64 d) := hrd 6 _ 44 rfl rfl (by kernel_rfl) (by kernel_rfl)
                exact wpv_call 28 [.tmp 44] _ rfl [.agg (u8s 64 d)] (by simp only [List.map_cons, List.map_nil, e44]) Try.call28 ((hgn.out w2).mono fun _ _ ⟨h1, h2⟩ => ⟨_, h1, rfl, h2⟩)
              · obtain rfl := Option.some.inj ho
                refine .inl ⟨rfl, ?_⟩
                have e43 : a.eval (.tmp 43) = .int .i64 (((mkp 64 (fA F k)).length : Int) - 1) := hrd 5 _ 43 rfl rfl (by kernel_rfl) (by kernel_rfl)
                have e45 : a.eval (.tmp 45) = .int .i64 (gns (mkp 64 d)) := hrd 7 _ 45 rfl rfl (by kernel_rfl) (by kernel_rfl)
                exact wpv_of (wp_cmp .gtr _ _ _ _ rfl rfl .i64 _ _ e43 e45 _ hk3.out) (fun _ _ => rfl)
              · simp at ho
            intro vals xE hBx hSx hc0
            have e0 : vals 0 = .slice (some ⟨g, 0, none⟩) n n := hc0 0 (by simp)
            have e1 : vals 1 = .int .i64 k := hc0 1 (by simp)
            have e2 : vals 2 = .pointer (some ⟨g, k * 128, none⟩) := hc0 2 (by simp)
            have e3 : vals 3 = .pointer (some ⟨g, k * 128 + 0, none⟩) := hc0 3 (by simp)
            have e4 : vals 4 = .agg (u8s 64 (fA F k)) := hc0 4 (by simp)
            have e5 : vals 5 = .int .i64 (((mkp 64 (fA F k)).length : Int) - 1) := hc0 5 (by simp)
            have e6 : vals 6 = .agg (u8s 64 d) := hc0 6 (by simp)
            have e7 : vals 7 = .int .i64 (gns (mkp 64 d)) := hc0 7 (by simp)
            have e8 : vals 8 = .bool true := hc0 8 (by simp)
            simp only [List.length_cons, List.length_nil, Nat.zero_add, Nat.reduceAdd, List.replicate, putAll, if_true, Act.put, List.setIfInBounds_toArray, List.set_cons_zero, List.set_cons_succ, e0, e1, e2, e3, e4, e5, e6, e7, e8]
            replace hD := hSx.1
            replace hL := hSx.2.1
            replace hb := below_step hb hBx
            clear hc0 hSx e0 e1 e2 e3 e4 e5 e6 e7 e8
            go_wp2_with fail
            go_ret
            exact ⟨rfl, hb⟩
          ·
            replace hk3 := Lib.hid (show cmpB .gtr (((mkp 64 (fA F k)).length : Int) - 1) (gns (mkp 64 d)) = false from hk3)
            go_upto_region 11 with (fail)
            refine gen_guard (w := _) (by kernel_rfl) (by kernel_rfl) (by kernel_rfl)
                (fun i => ([fun zv _ => zv = .slice (some ⟨g, 0, none⟩) n n, fun zv _ => zv = .int .i64 k, fun zv _ => zv = .pointer (some ⟨g, k * 128, none⟩), fun zv _ => zv = .pointer (some ⟨g, k * 128 + 0, none⟩), fun zv _ => zv = .agg (u8s 64 (fA F k)), fun zv _ => zv = .int .i64 (((mkp 64 (fA F k)).length : Int) - 1), fun zv _ => zv = .agg (u8s 64 d), fun zv _ => zv = .int .i64 (gns (mkp 64 d)), fun zv _ => zv = .bool false] : List (Value → World → Prop)).getD i (fun _ _ => True))
                (fun w' => Blk w' (w.heap.size) (u8s 64 d) 27 ∧ Blk w' (g) (u8s (n * 128) F) 30 ∧ True) ⟨hD.drew, hL.drew, trivial⟩ (fun w1 w2 h hb => ⟨h.1.keep hb, h.2.1.keep hb, trivial⟩) ?_ ?_ ?_
            · intro i v w1 w2 h hb
              rcases i with _|_|_|_|_|_|_|_|_|i
              · exact h
              · exact h
              · exact h
              · exact h
              · exact h
              · exact h
              · exact h
              · exact h
              · exact h
              · exact h
            · intro i o ho a w2 hBl hSx hrd hpar
              rcases i with _|_|_|_|_|_|_|_|_|i
              · obtain rfl := Option.some.inj ho
                refine .inl ⟨rfl, ?_⟩
                have e3 : a.eval (.tmp 3) = .slice (some ⟨g, 0, none⟩) n n := hpar 3 _ (by kernel_rfl) (by kernel_rfl)
                exact wpv_of (wp_move _ _ rfl e3) (fun _ _ => rfl)
              · obtain rfl := Option.some.inj ho
                refine .inl ⟨rfl, ?_⟩
                have e10 : a.eval (.tmp 10) = .int .i64 k := hpar 10 _ (by kernel_rfl) (by kernel_rfl)
                exact wpv_of (wp_move _ _ rfl e10) (fun _ _ => rfl)
              · obtain rfl := Option.some.inj ho
                refine .inl ⟨rfl, ?_⟩
                have e38 : a.eval (.tmp 38) = .slice (some ⟨g, 0, none⟩) n n := hrd 0 _ 38 rfl rfl (by kernel_rfl) (by kernel_rfl)
                have e39 : a.eval (.tmp 39) = .int .i64 k := hrd 1 _ 39 rfl rfl (by kernel_rfl) (by kernel_rfl)
                exact wpv_of (wp_index_rowN 55 30 128 _ _ rfl Try.underlying55 sForm (by decide) g n n k .i64 e38 e39 hlt) (fun _ _ => rfl)
              · obtain rfl := Option.some.inj ho
                refine .inl ⟨rfl, ?_⟩
                have e40 : a.eval (.tmp 40) = .pointer (some ⟨g, k * 128, none⟩) := hrd 2 _ 40 rfl rfl (by kernel_rfl) (by kernel_rfl)
                exact wpv_of (wp_fieldB 30 _ 0 rfl 0 64 fForm0 g (k * 128) e40) (fun _ _ => rfl)
              · obtain rfl := Option.some.inj ho
                refine .inl ⟨rfl, ?_⟩
                have e41 : a.eval (.tmp 41) = .pointer (some ⟨g, k * 128 + 0, none⟩) := hrd 3 _ 41 rfl rfl (by kernel_rfl) (by kernel_rfl)
                exact wpv_of (wp_load_A' 27 _ rfl g k e41 (n * 128) 5 F _ hSx.2.1 (by omega) uPoly sPoly) (fun _ _ => rfl)
              · obtain rfl := Option.some.inj ho
                refine .inl ⟨rfl, ?_⟩
                have e42 : a.eval (.tmp 42) = .agg (u8s 64 (fA F k)) := hrd 4 _ 42 rfl rfl (by kernel_rfl) (by kernel_rfl)
                exact wpv_call 27 [.tmp 42] _ rfl [.agg (u8s 64 (fA F k))] (by simp only [List.map_cons, List.map_nil, e42]) Try.call27 ((hk2.out w2).mono fun _ _ ⟨h1, h2⟩ => ⟨_, h1, rfl, h2⟩)
              · obtain rfl := Option.some.inj ho
                refine .inl ⟨rfl, ?_⟩
                exact wpv_of (wp_loadB 27 _ rfl _ (hpar 5 (.pointer (some ⟨w.heap.size, 0, none⟩)) (by kernel_rfl) (by kernel_rfl)) _ _ hSx.1 _ _ uPoly sPoly) (fun _ _ => rfl)
              · obtain rfl := Option.some.inj ho
                refine .inl ⟨rfl, ?_⟩
                have e44 : a.eval (.tmp 44) = .agg (u8s 64 d) := hrd 6 _ 44 rfl rfl (by kernel_rfl) (by kernel_rfl)
                exact wpv_call 28 [.tmp 44] _ rfl [.agg (u8s 64 d)] (by simp only [List.map_cons, List.map_nil, e44]) Try.call28 ((hgn.out w2).mono fun _ _ ⟨h1, h2⟩ => ⟨_, h1, rfl, h2⟩)
              · obtain rfl := Option.some.inj ho
                refine .inl ⟨rfl, ?_⟩
                have e43 : a.eval (.tmp 43) = .int .i64 (((mkp 64 (fA F k)).length : Int) - 1) := hrd 5 _ 43 rfl rfl (by kernel_rfl) (by kernel_rfl)
                have e45 : a.eval (.tmp 45) = .int .i64 (gns (mkp 64 d)) := hrd 7 _ 45 rfl rfl (by kernel_rfl) (by kernel_rfl)
                exact wpv_of (wp_cmp .gtr _ _ _ _ rfl rfl .i64 _ _ e43 e45 _ hk3.out) (fun _ _ => rfl)
              · simp at ho
            intro vals xE hBx hSx hc0
            have e0 : vals 0 = .slice (some ⟨g, 0, none⟩) n n := hc0 0 (by simp)
            have e1 : vals 1 = .int .i64 k := hc0 1 (by simp)
            have e2 : vals 2 = .pointer (some ⟨g, k * 128, none⟩) := hc0 2 (by simp)
            have e3 : vals 3 = .pointer (some ⟨g, k * 128 + 0, none⟩) := hc0 3 (by simp)
            have e4 : vals 4 = .agg (u8s 64 (fA F k)) := hc0 4 (by simp)
            have e5 : vals 5 = .int .i64 (((mkp 64 (fA F k)).length : Int) - 1) := hc0 5 (by simp)
            have e6 : vals 6 = .agg (u8s 64 d) := hc0 6 (by simp)
            have e7 : vals 7 = .int .i64 (gns (mkp 64 d)) := hc0 7 (by simp)
            have e8 : vals 8 = .bool false := hc0 8 (by simp)
            simp only [List.length_cons, List.length_nil, Nat.zero_add, Nat.reduceAdd, List.replicate, putAll, if_true, Act.put, List.setIfInBounds_toArray, List.set_cons_zero, List.set_cons_succ, e0, e1, e2, e3, e4, e5, e6, e7, e8]
            replace hD := hSx.1
            replace hL := hSx.2.1
            replace hb := below_step hb hBx
            clear hc0 hSx e0 e1 e2 e3 e4 e5 e6 e7 e8
            go_wp2_with fail
            go_roundw
            case rel => exact ⟨k + 1, by omega, by go_num, fun _ j hj => by
              by_cases e1 : j = k
              · subst e1; exact htH.out
              · exact hallH.out (by first | rfl | trivial) j (by omega), hD, hL, hb⟩
            case measure => simp [intOf] <;> omega
        · obtain rfl : n = k := by omega
          have hbr : br = true := hTH.out.all2.1 (hallH.out (by first | rfl | trivial))
          subst hbr
          go_wp2_with fail
          go_ret
          exact ⟨rfl, hb⟩
end Go.Proofs.Ytohgjihccjnheab
