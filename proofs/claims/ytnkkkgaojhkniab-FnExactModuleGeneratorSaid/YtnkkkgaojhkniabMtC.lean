/- Several texts in one: Mt5, Mt6, Mt7, Mt9. -/
import Derived.Test.YtnkkkgaojhkniabMt4
import Derived.Test.YtnkkkgaojhkniabPuC
import Derived.Test.YtnkkkgaojhkniabInvA
set_option linter.unusedVariables false
set_option linter.unusedSimpArgs false
/- Walks: a line with an entry that the corner does not divide. -/
namespace Go.Proofs.Ytnkkkgaojhkniab
open Go.RowKit
def spoilPost (p : Int) (n k : Nat) (M : MxL) (w : World) (e : Ending) (w' : World) : Prop :=
  ((e = .returned (.int .i64 (-1)) ∧ ∀ i j, k < i → i < n → k < j → j < n → (divp p (M i j) (M k k)).2 = []) ∨ ∃ bad j : Nat, e = .returned (.int .i64 (bad : Int)) ∧ k < bad ∧ bad < n ∧ k < j ∧ j < n ∧ (divp p (M bad j) (M k k)).2 ≠ []) ∧ Below w.heap.size w w'
set_option maxRecDepth 20000 in
set_option maxHeartbeats 4000000 in
theorem spoiler_any (B U g n k : Nat) (p : Int) (M : MxL) (w : World) (hp : Pr p) (h : IsMat w B U g n M) (hn : n ≤ 6) (hk : k < n) (hpo : ∀ i j, Part k n i → Part k n j → Po p (M i j) ∧ (M i j).length ≤ 100) (hne : M k k ≠ []) :
    Calls Try.prog 66 #[.int .i64 p, .slice (some ⟨g, 0, none⟩) n n, .int .i64 k] w (spoilPost p n k M w) := by
  obtain ⟨b, c, R, hM⟩ := h
  have hpH := Lib.hid hp
  have hpoH := Lib.hid hpo
  have hneH := Lib.hid hne
  clear hp hpo hne
  have hnI : (n : Int) ≤ 6 := by omega
  have hkn : (k : Int) < (n : Int) := by omega
  go_enter Try.func66, Try.ntmps66
  go_wp2_with fail
  go_loopw [7] (fun vi wr => ∃ rr : Nat, vi = .int .i64 (rr : Int) ∧ k < rr ∧ rr ≤ n ∧ Hid (∀ i j, k < i → i < rr → k < j → j < n → (divp p (M i j) (M k k)).2 = []) ∧ MatB wr B U g n b c R M ∧ Below w.heap.size w wr) (fun vi _ => n - (intOf vi).toNat)
  case atStart => exact ⟨k + 1, by go_num, by omega, by omega, Lib.hid fun i j h1 h2 => absurd h1 (by omega), hM, Below.refl _ _⟩
  case round =>
    clear hM
    obtain ⟨rr, rfl, hkr, hrn', hS, hM, hb⟩ := hrel
    rename World => w0
    by_cases hrn : rr < n
    · have hrI : (rr : Int) < (n : Int) := by omega
      go_wp2_with fail
      go_loopw [8] (fun vj wr => ∃ qq : Nat, vj = .int .i64 (qq : Int) ∧ k < qq ∧ qq ≤ n ∧ Hid (∀ j, k < j → j < qq → (divp p (M rr j) (M k k)).2 = []) ∧ MatB wr B U g n b c R M ∧ Below w.heap.size w wr) (fun vj _ => n - (intOf vj).toNat)
      case atStart => exact ⟨k + 1, by go_num, by omega, by omega, Lib.hid fun j h1 h2 => absurd h1 (by omega), hM, hb⟩
      case round =>
        clear hM hb
        obtain ⟨qq, rfl, hkq, hqn', hS2, hM, hb⟩ := hrel
        by_cases hqn : qq < n
        · have hqI : (qq : Int) < (n : Int) := by omega
          have hrest := Lib.hid (fun (w2 : World) (hm : MatB w2 B U g n b c R M) => rest_any (R rr qq) (R k k) (M rr qq) (M k k) p w2 hpH.out (hm.row rr qq hrn hqn) (hm.row k k hk hk) (hpoH.out rr qq ⟨by omega, hrn⟩ ⟨by omega, hqn⟩).1 (hpoH.out k k ⟨Nat.le_refl k, hk⟩ ⟨Nat.le_refl k, hk⟩).1 hneH.out
            (by have := (hpoH.out rr qq ⟨by omega, hrn⟩ ⟨by omega, hqn⟩).2; omega) (by have := (hpoH.out k k ⟨Nat.le_refl k, hk⟩ ⟨Nat.le_refl k, hk⟩).2; omega))
          obtain ⟨L, hL⟩ : ∃ L, (rst p (M rr qq) (M k k)).length = L := ⟨_, rfl⟩
          have hLH := Lib.hid hL
          clear hL
          by_cases hz : L = 0
          · have hq0 : cmpB .gtr (L : Int) 0 = false := by subst hz; rfl
            have hnil := Lib.hid (show (divp p (M rr qq) (M k k)).2 = [] from List.length_eq_zero_iff.1 (hLH.out.trans hz))
            clear hz
            go_upto_region 7 with (fail)
            refine gen_guard (w := _) (by kernel_rfl) (by kernel_rfl) (by kernel_rfl)
                (fun i => ([fun zv _ => zv = .int .i64 p, fun zv _ => zv = .slice (some ⟨g, 0, none⟩) n n, fun zv _ => zv = .int .i64 ((rr : Nat) : Int), fun zv _ => zv = .pointer (some ⟨g, rr, none⟩), fun zv _ => zv = .slice (some ⟨b (rr), 0, none⟩) n (c (rr)), fun zv _ => zv = .int .i64 ((qq : Nat) : Int), fun zv _ => zv = .pointer (some ⟨b (rr), qq, none⟩), fun zv _ => zv = (R (rr) (qq)), fun zv _ => zv = .slice (some ⟨g, 0, none⟩) n n, fun zv _ => zv = .int .i64 ((k : Nat) : Int), fun zv _ => zv = .pointer (some ⟨g, k, none⟩), fun zv _ => zv = .slice (some ⟨b (k), 0, none⟩) n (c (k)), fun zv _ => zv = .int .i64 ((k : Nat) : Int), fun zv _ => zv = .pointer (some ⟨b (k), k, none⟩), fun zv _ => zv = (R (k) (k)), fun v w => IsRow w v (rst p (M rr qq) (M k k)), fun zv _ => zv = .int .i64 ((L : Nat) : Int), fun zv _ => zv = .bool false] : List (Value → World → Prop)).getD i (fun _ _ => True))
                (fun w' => True) trivial (fun w1 w2 h hb => trivial) ?_ ?_ ?_
            · intro i v w1 w2 h hb
              rcases i with _|_|_|_|_|_|_|_|_|_|_|_|_|_|_|_|_|_|i
              · exact h
              · exact h
              · exact h
              · exact h
              · exact h
              · exact h
              · exact h
              · exact h
              · exact h
              · exact h
              · exact h
              · exact h
              · exact h
              · exact h
              · exact h
              · exact (show IsRow w1 v (rst p (M rr qq) (M k k)) from h).below hb
              · exact h
              · exact h
              · exact h
            · intro i o ho a w2 hBl hSx hrd hpar
              rcases i with _|_|_|_|_|_|_|_|_|_|_|_|_|_|_|_|_|_|i
              · obtain rfl := Option.some.inj ho
                refine .inl ⟨rfl, ?_⟩
                have e0 : a.eval (.tmp 0) = .int .i64 p := hpar 0 _ (by kernel_rfl) (by kernel_rfl)
                exact wpv_of (wp_move _ _ rfl e0) (fun _ _ => rfl)
              · obtain rfl := Option.some.inj ho
                refine .inl ⟨rfl, ?_⟩
                have e1 : a.eval (.tmp 1) = .slice (some ⟨g, 0, none⟩) n n := hpar 1 _ (by kernel_rfl) (by kernel_rfl)
                exact wpv_of (wp_move _ _ rfl e1) (fun _ _ => rfl)
              · obtain rfl := Option.some.inj ho
                refine .inl ⟨rfl, ?_⟩
                have e7 : a.eval (.tmp 7) = .int .i64 ((rr : Nat) : Int) := hpar 7 _ (by kernel_rfl) (by kernel_rfl)
                exact wpv_of (wp_move _ _ rfl e7) (fun _ _ => rfl)
              · obtain rfl := Option.some.inj ho
                refine .inl ⟨rfl, ?_⟩
                have e26 : a.eval (.tmp 26) = .slice (some ⟨g, 0, none⟩) n n := hrd 1 _ 26 rfl rfl (by kernel_rfl) (by kernel_rfl)
                have e27 : a.eval (.tmp 27) = .int .i64 ((rr : Nat) : Int) := hrd 2 _ 27 rfl rfl (by kernel_rfl) (by kernel_rfl)
                exact wpv_of (wp_index_row1 77 49 _ _ rfl uMatT sLinT g n n (rr) .i64 e26 e27 hrn) (fun _ _ => rfl)
              · obtain rfl := Option.some.inj ho
                refine .inl ⟨rfl, ?_⟩
                have e28 : a.eval (.tmp 28) = .pointer (some ⟨g, rr, none⟩) := hrd 3 _ 28 rfl rfl (by kernel_rfl) (by kernel_rfl)
                exact wpv_of (wp_load_slice 49 55 _ rfl _ e28 uLinT _ ((hM.below hBl).cell1 hrn)) (fun _ _ => rfl)
              · obtain rfl := Option.some.inj ho
                refine .inl ⟨rfl, ?_⟩
                have e8 : a.eval (.tmp 8) = .int .i64 ((qq : Nat) : Int) := hpar 8 _ (by kernel_rfl) (by kernel_rfl)
                exact wpv_of (wp_move _ _ rfl e8) (fun _ _ => rfl)
              · obtain rfl := Option.some.inj ho
                refine .inl ⟨rfl, ?_⟩
                have e29 : a.eval (.tmp 29) = .slice (some ⟨b (rr), 0, none⟩) n (c (rr)) := hrd 4 _ 29 rfl rfl (by kernel_rfl) (by kernel_rfl)
                have e30 : a.eval (.tmp 30) = .int .i64 ((qq : Nat) : Int) := hrd 5 _ 30 rfl rfl (by kernel_rfl) (by kernel_rfl)
                exact wpv_of (wp_index_row1 49 55 _ _ rfl uLinT sEntT (b (rr)) n (c (rr)) (qq) .i64 e29 e30 hqn) (fun _ _ => rfl)
              · obtain rfl := Option.some.inj ho
                refine .inl ⟨rfl, ?_⟩
                have e31 : a.eval (.tmp 31) = .pointer (some ⟨b (rr), qq, none⟩) := hrd 6 _ 31 rfl rfl (by kernel_rfl) (by kernel_rfl)
                exact wpv_of (wp_load_slice 55 2 _ rfl _ e31 uEntT _ ((hM.below hBl).cell2 hrn hqn)) (fun _ _ => rfl)
              · obtain rfl := Option.some.inj ho
                refine .inl ⟨rfl, ?_⟩
                have e1 : a.eval (.tmp 1) = .slice (some ⟨g, 0, none⟩) n n := hpar 1 _ (by kernel_rfl) (by kernel_rfl)
                exact wpv_of (wp_move _ _ rfl e1) (fun _ _ => rfl)
              · obtain rfl := Option.some.inj ho
                refine .inl ⟨rfl, ?_⟩
                have e2 : a.eval (.tmp 2) = .int .i64 ((k : Nat) : Int) := hpar 2 _ (by kernel_rfl) (by kernel_rfl)
                exact wpv_of (wp_move _ _ rfl e2) (fun _ _ => rfl)
              · obtain rfl := Option.some.inj ho
                refine .inl ⟨rfl, ?_⟩
                have e33 : a.eval (.tmp 33) = .slice (some ⟨g, 0, none⟩) n n := hrd 8 _ 33 rfl rfl (by kernel_rfl) (by kernel_rfl)
                have e34 : a.eval (.tmp 34) = .int .i64 ((k : Nat) : Int) := hrd 9 _ 34 rfl rfl (by kernel_rfl) (by kernel_rfl)
                exact wpv_of (wp_index_row1 77 49 _ _ rfl uMatT sLinT g n n (k) .i64 e33 e34 hk) (fun _ _ => rfl)
              · obtain rfl := Option.some.inj ho
                refine .inl ⟨rfl, ?_⟩
                have e35 : a.eval (.tmp 35) = .pointer (some ⟨g, k, none⟩) := hrd 10 _ 35 rfl rfl (by kernel_rfl) (by kernel_rfl)
                exact wpv_of (wp_load_slice 49 55 _ rfl _ e35 uLinT _ ((hM.below hBl).cell1 hk)) (fun _ _ => rfl)
              · obtain rfl := Option.some.inj ho
                refine .inl ⟨rfl, ?_⟩
                have e2 : a.eval (.tmp 2) = .int .i64 ((k : Nat) : Int) := hpar 2 _ (by kernel_rfl) (by kernel_rfl)
                exact wpv_of (wp_move _ _ rfl e2) (fun _ _ => rfl)
              · obtain rfl := Option.some.inj ho
                refine .inl ⟨rfl, ?_⟩
                have e36 : a.eval (.tmp 36) = .slice (some ⟨b (k), 0, none⟩) n (c (k)) := hrd 11 _ 36 rfl rfl (by kernel_rfl) (by kernel_rfl)
                have e37 : a.eval (.tmp 37) = .int .i64 ((k : Nat) : Int) := hrd 12 _ 37 rfl rfl (by kernel_rfl) (by kernel_rfl)
                exact wpv_of (wp_index_row1 49 55 _ _ rfl uLinT sEntT (b (k)) n (c (k)) (k) .i64 e36 e37 hk) (fun _ _ => rfl)
              · obtain rfl := Option.some.inj ho
                refine .inl ⟨rfl, ?_⟩
                have e38 : a.eval (.tmp 38) = .pointer (some ⟨b (k), k, none⟩) := hrd 13 _ 38 rfl rfl (by kernel_rfl) (by kernel_rfl)
                exact wpv_of (wp_load_slice 55 2 _ rfl _ e38 uEntT _ ((hM.below hBl).cell2 hk hk)) (fun _ _ => rfl)
              · obtain rfl := Option.some.inj ho
                refine .inl ⟨rfl, ?_⟩
                have e25 : a.eval (.tmp 25) = .int .i64 p := hrd 0 _ 25 rfl rfl (by kernel_rfl) (by kernel_rfl)
                have e32 : a.eval (.tmp 32) = (R (rr) (qq)) := hrd 7 _ 32 rfl rfl (by kernel_rfl) (by kernel_rfl)
                have e39 : a.eval (.tmp 39) = (R (k) (k)) := hrd 14 _ 39 rfl rfl (by kernel_rfl) (by kernel_rfl)
                exact wpv_call 88 [.tmp 25, .tmp 32, .tmp 39] _ rfl [.int .i64 p, (R (rr) (qq)), (R (k) (k))] (by simp only [List.map_cons, List.map_nil, e25, e32, e39]) Try.call88 (hrest.out w2 (hM.below hBl))
              · obtain rfl := Option.some.inj ho
                refine .inl ⟨rfl, ?_⟩
                have h40 : (fun v w => IsRow w v (rst p (M rr qq) (M k k))) (a.eval (.tmp 40)) w2 := hrd 15 _ 40 rfl rfl (by kernel_rfl) (by kernel_rfl)
                generalize e40 : a.eval (.tmp 40) = v40 at h40
                obtain ⟨oR, cR, hRe⟩ := (show IsRow w2 v40 (rst p (M rr qq) (M k k)) from h40).form
                rw [hLH.out] at hRe
                exact wpv_of (wp_len _ 55 2 uEntT rfl oR L cR (e40.trans hRe)) (fun _ _ => rfl)
              · obtain rfl := Option.some.inj ho
                refine .inl ⟨rfl, ?_⟩
                have e41 : a.eval (.tmp 41) = .int .i64 ((L : Nat) : Int) := hrd 16 _ 41 rfl rfl (by kernel_rfl) (by kernel_rfl)
                exact wpv_of (wp_cmp .gtr _ _ _ _ rfl rfl .i64 _ _ e41 rfl _ hq0) (fun _ _ => rfl)
              · simp at ho
            intro vals xB hBx hSx hc0
            have e0 : vals 0 = .int .i64 p := hc0 0 (by simp)
            have e1 : vals 1 = .slice (some ⟨g, 0, none⟩) n n := hc0 1 (by simp)
            have e2 : vals 2 = .int .i64 ((rr : Nat) : Int) := hc0 2 (by simp)
            have e3 : vals 3 = .pointer (some ⟨g, rr, none⟩) := hc0 3 (by simp)
            have e4 : vals 4 = .slice (some ⟨b (rr), 0, none⟩) n (c (rr)) := hc0 4 (by simp)
            have e5 : vals 5 = .int .i64 ((qq : Nat) : Int) := hc0 5 (by simp)
            have e6 : vals 6 = .pointer (some ⟨b (rr), qq, none⟩) := hc0 6 (by simp)
            have e7 : vals 7 = (R (rr) (qq)) := hc0 7 (by simp)
            have e8 : vals 8 = .slice (some ⟨g, 0, none⟩) n n := hc0 8 (by simp)
            have e9 : vals 9 = .int .i64 ((k : Nat) : Int) := hc0 9 (by simp)
            have e10 : vals 10 = .pointer (some ⟨g, k, none⟩) := hc0 10 (by simp)
            have e11 : vals 11 = .slice (some ⟨b (k), 0, none⟩) n (c (k)) := hc0 11 (by simp)
            have e12 : vals 12 = .int .i64 ((k : Nat) : Int) := hc0 12 (by simp)
            have e13 : vals 13 = .pointer (some ⟨b (k), k, none⟩) := hc0 13 (by simp)
            have e14 : vals 14 = (R (k) (k)) := hc0 14 (by simp)
            have cB15 : (fun v w => IsRow w v (rst p (M rr qq) (M k k))) (vals 15) xB := hc0 15 (by simp)
            generalize ev15 : vals 15 = uB15 at cB15
            have e16 : vals 16 = .int .i64 ((L : Nat) : Int) := hc0 16 (by simp)
            have e17 : vals 17 = .bool false := hc0 17 (by simp)
            simp only [List.length_cons, List.length_nil, Nat.zero_add, Nat.reduceAdd, List.replicate, putAll, if_true, Act.put, List.setIfInBounds_toArray, List.set_cons_zero, List.set_cons_succ, e0, e1, e2, e3, e4, e5, e6, e7, e8, e9, e10, e11, e12, e13, e14, ev15, e16, e17]
            replace hb := below_step hb hBx
            replace hM := hM.below hBx
            clear hc0 hSx e0 e1 e2 e3 e4 e5 e6 e7 e8 e9 e10 e11 e12 e13 e14 ev15 e16 e17
            clear cB15
            clear hLH hrest
            go_wp2_with fail
            go_roundw
            case rel => exact ⟨qq + 1, by go_num, by omega, by omega, Lib.hid fun j h1 h2 => by
              by_cases e : j = qq
              · subst e; exact hnil.out
              · exact hS2.out j h1 (by omega), hM, hb⟩
            case measure => simp [intOf] <;> omega
          · have hq0 : cmpB .gtr (L : Int) 0 = true := by simp [cmpB]; omega
            have hnil := Lib.hid (show (divp p (M rr qq) (M k k)).2 ≠ [] from fun e => hz (hLH.out.symm.trans (congrArg List.length e)))
            clear hz
            go_upto_region 7 with (fail)
            refine gen_guard (w := _) (by kernel_rfl) (by kernel_rfl) (by kernel_rfl)
                (fun i => ([fun zv _ => zv = .int .i64 p, fun zv _ => zv = .slice (some ⟨g, 0, none⟩) n n, fun zv _ => zv = .int .i64 ((rr : Nat) : Int), fun zv _ => zv = .pointer (some ⟨g, rr, none⟩), fun zv _ => zv = .slice (some ⟨b (rr), 0, none⟩) n (c (rr)), fun zv _ => zv = .int .i64 ((qq : Nat) : Int), fun zv _ => zv = .pointer (some ⟨b (rr), qq, none⟩), fun zv _ => zv = (R (rr) (qq)), fun zv _ => zv = .slice (some ⟨g, 0, none⟩) n n, fun zv _ => zv = .int .i64 ((k : Nat) : Int), fun zv _ => zv = .pointer (some ⟨g, k, none⟩), fun zv _ => zv = .slice (some ⟨b (k), 0, none⟩) n (c (k)), fun zv _ => zv = .int .i64 ((k : Nat) : Int), fun zv _ => zv = .pointer (some ⟨b (k), k, none⟩), fun zv _ => zv = (R (k) (k)), fun v w => IsRow w v (rst p (M rr qq) (M k k)), fun zv _ => zv = .int .i64 ((L : Nat) : Int), fun zv _ => zv = .bool true] : List (Value → World → Prop)).getD i (fun _ _ => True))
                (fun w' => True) trivial (fun w1 w2 h hb => trivial) ?_ ?_ ?_
            · intro i v w1 w2 h hb
              rcases i with _|_|_|_|_|_|_|_|_|_|_|_|_|_|_|_|_|_|i
              · exact h
              · exact h
              · exact h
              · exact h
              · exact h
              · exact h
              · exact h
              · exact h
              · exact h
              · exact h
              · exact h
              · exact h
              · exact h
              · exact h
              · exact h
              · exact (show IsRow w1 v (rst p (M rr qq) (M k k)) from h).below hb
              · exact h
              · exact h
              · exact h
            · intro i o ho a w2 hBl hSx hrd hpar
              rcases i with _|_|_|_|_|_|_|_|_|_|_|_|_|_|_|_|_|_|i
              · obtain rfl := Option.some.inj ho
                refine .inl ⟨rfl, ?_⟩
                have e0 : a.eval (.tmp 0) = .int .i64 p := hpar 0 _ (by kernel_rfl) (by kernel_rfl)
                exact wpv_of (wp_move _ _ rfl e0) (fun _ _ => rfl)
              · obtain rfl := Option.some.inj ho
                refine .inl ⟨rfl, ?_⟩
                have e1 : a.eval (.tmp 1) = .slice (some ⟨g, 0, none⟩) n n := hpar 1 _ (by kernel_rfl) (by kernel_rfl)
                exact wpv_of (wp_move _ _ rfl e1) (fun _ _ => rfl)
              · obtain rfl := Option.some.inj ho
                refine .inl ⟨rfl, ?_⟩
                have e7 : a.eval (.tmp 7) = .int .i64 ((rr : Nat) : Int) := hpar 7 _ (by kernel_rfl) (by kernel_rfl)
                exact wpv_of (wp_move _ _ rfl e7) (fun _ _ => rfl)
              · obtain rfl := Option.some.inj ho
                refine .inl ⟨rfl, ?_⟩
                have e26 : a.eval (.tmp 26) = .slice (some ⟨g, 0, none⟩) n n := hrd 1 _ 26 rfl rfl (by kernel_rfl) (by kernel_rfl)
                have e27 : a.eval (.tmp 27) = .int .i64 ((rr : Nat) : Int) := hrd 2 _ 27 rfl rfl (by kernel_rfl) (by kernel_rfl)
                exact wpv_of (wp_index_row1 77 49 _ _ rfl uMatT sLinT g n n (rr) .i64 e26 e27 hrn) (fun _ _ => rfl)
              · obtain rfl := Option.some.inj ho
                refine .inl ⟨rfl, ?_⟩
                have e28 : a.eval (.tmp 28) = .pointer (some ⟨g, rr, none⟩) := hrd 3 _ 28 rfl rfl (by kernel_rfl) (by kernel_rfl)
                exact wpv_of (wp_load_slice 49 55 _ rfl _ e28 uLinT _ ((hM.below hBl).cell1 hrn)) (fun _ _ => rfl)
              · obtain rfl := Option.some.inj ho
                refine .inl ⟨rfl, ?_⟩
                have e8 : a.eval (.tmp 8) = .int .i64 ((qq : Nat) : Int) := hpar 8 _ (by kernel_rfl) (by kernel_rfl)
                exact wpv_of (wp_move _ _ rfl e8) (fun _ _ => rfl)
              · obtain rfl := Option.some.inj ho
                refine .inl ⟨rfl, ?_⟩
                have e29 : a.eval (.tmp 29) = .slice (some ⟨b (rr), 0, none⟩) n (c (rr)) := hrd 4 _ 29 rfl rfl (by kernel_rfl) (by kernel_rfl)
                have e30 : a.eval (.tmp 30) = .int .i64 ((qq : Nat) : Int) := hrd 5 _ 30 rfl rfl (by kernel_rfl) (by kernel_rfl)
                exact wpv_of (wp_index_row1 49 55 _ _ rfl uLinT sEntT (b (rr)) n (c (rr)) (qq) .i64 e29 e30 hqn) (fun _ _ => rfl)
              · obtain rfl := Option.some.inj ho
                refine .inl ⟨rfl, ?_⟩
                have e31 : a.eval (.tmp 31) = .pointer (some ⟨b (rr), qq, none⟩) := hrd 6 _ 31 rfl rfl (by kernel_rfl) (by kernel_rfl)
                exact wpv_of (wp_load_slice 55 2 _ rfl _ e31 uEntT _ ((hM.below hBl).cell2 hrn hqn)) (fun _ _ => rfl)
              · obtain rfl := Option.some.inj ho
                refine .inl ⟨rfl, ?_⟩
                have e1 : a.eval (.tmp 1) = .slice (some ⟨g, 0, none⟩) n n := hpar 1 _ (by kernel_rfl) (by kernel_rfl)
                exact wpv_of (wp_move _ _ rfl e1) (fun _ _ => rfl)
              · obtain rfl := Option.some.inj ho
                refine .inl ⟨rfl, ?_⟩
                have e2 : a.eval (.tmp 2) = .int .i64 ((k : Nat) : Int) := hpar 2 _ (by kernel_rfl) (by kernel_rfl)
                exact wpv_of (wp_move _ _ rfl e2) (fun _ _ => rfl)
              · obtain rfl := Option.some.inj ho
                refine .inl ⟨rfl, ?_⟩
                have e33 : a.eval (.tmp 33) = .slice (some ⟨g, 0, none⟩) n n := hrd 8 _ 33 rfl rfl (by kernel_rfl) (by kernel_rfl)
                have e34 : a.eval (.tmp 34) = .int .i64 ((k : Nat) : Int) := hrd 9 _ 34 rfl rfl (by kernel_rfl) (by kernel_rfl)
                exact wpv_of (wp_index_row1 77 49 _ _ rfl uMatT sLinT g n n (k) .i64 e33 e34 hk) (fun _ _ => rfl)
              · obtain rfl := Option.some.inj ho
                refine .inl ⟨rfl, ?_⟩
                have e35 : a.eval (.tmp 35) = .pointer (some ⟨g, k, none⟩) := hrd 10 _ 35 rfl rfl (by kernel_rfl) (by kernel_rfl)
                exact wpv_of (wp_load_slice 49 55 _ rfl _ e35 uLinT _ ((hM.below hBl).cell1 hk)) (fun _ _ => rfl)
              · obtain rfl := Option.some.inj ho
                refine .inl ⟨rfl, ?_⟩
                have e2 : a.eval (.tmp 2) = .int .i64 ((k : Nat) : Int) := hpar 2 _ (by kernel_rfl) (by kernel_rfl)
                exact wpv_of (wp_move _ _ rfl e2) (fun _ _ => rfl)
              · obtain rfl := Option.some.inj ho
                refine .inl ⟨rfl, ?_⟩
                have e36 : a.eval (.tmp 36) = .slice (some ⟨b (k), 0, none⟩) n (c (k)) := hrd 11 _ 36 rfl rfl (by kernel_rfl) (by kernel_rfl)
                have e37 : a.eval (.tmp 37) = .int .i64 ((k : Nat) : Int) := hrd 12 _ 37 rfl rfl (by kernel_rfl) (by kernel_rfl)
                exact wpv_of (wp_index_row1 49 55 _ _ rfl uLinT sEntT (b (k)) n (c (k)) (k) .i64 e36 e37 hk) (fun _ _ => rfl)
              · obtain rfl := Option.some.inj ho
                refine .inl ⟨rfl, ?_⟩
                have e38 : a.eval (.tmp 38) = .pointer (some ⟨b (k), k, none⟩) := hrd 13 _ 38 rfl rfl (by kernel_rfl) (by kernel_rfl)
                exact wpv_of (wp_load_slice 55 2 _ rfl _ e38 uEntT _ ((hM.below hBl).cell2 hk hk)) (fun _ _ => rfl)
              · obtain rfl := Option.some.inj ho
                refine .inl ⟨rfl, ?_⟩
                have e25 : a.eval (.tmp 25) = .int .i64 p := hrd 0 _ 25 rfl rfl (by kernel_rfl) (by kernel_rfl)
                have e32 : a.eval (.tmp 32) = (R (rr) (qq)) := hrd 7 _ 32 rfl rfl (by kernel_rfl) (by kernel_rfl)
                have e39 : a.eval (.tmp 39) = (R (k) (k)) := hrd 14 _ 39 rfl rfl (by kernel_rfl) (by kernel_rfl)
                exact wpv_call 88 [.tmp 25, .tmp 32, .tmp 39] _ rfl [.int .i64 p, (R (rr) (qq)), (R (k) (k))] (by simp only [List.map_cons, List.map_nil, e25, e32, e39]) Try.call88 (hrest.out w2 (hM.below hBl))
              · obtain rfl := Option.some.inj ho
                refine .inl ⟨rfl, ?_⟩
                have h40 : (fun v w => IsRow w v (rst p (M rr qq) (M k k))) (a.eval (.tmp 40)) w2 := hrd 15 _ 40 rfl rfl (by kernel_rfl) (by kernel_rfl)
                generalize e40 : a.eval (.tmp 40) = v40 at h40
                obtain ⟨oR, cR, hRe⟩ := (show IsRow w2 v40 (rst p (M rr qq) (M k k)) from h40).form
                rw [hLH.out] at hRe
                exact wpv_of (wp_len _ 55 2 uEntT rfl oR L cR (e40.trans hRe)) (fun _ _ => rfl)
              · obtain rfl := Option.some.inj ho
                refine .inl ⟨rfl, ?_⟩
                have e41 : a.eval (.tmp 41) = .int .i64 ((L : Nat) : Int) := hrd 16 _ 41 rfl rfl (by kernel_rfl) (by kernel_rfl)
                exact wpv_of (wp_cmp .gtr _ _ _ _ rfl rfl .i64 _ _ e41 rfl _ hq0) (fun _ _ => rfl)
              · simp at ho
            intro vals xA hBx hSx hc0
            have e0 : vals 0 = .int .i64 p := hc0 0 (by simp)
            have e1 : vals 1 = .slice (some ⟨g, 0, none⟩) n n := hc0 1 (by simp)
            have e2 : vals 2 = .int .i64 ((rr : Nat) : Int) := hc0 2 (by simp)
            have e3 : vals 3 = .pointer (some ⟨g, rr, none⟩) := hc0 3 (by simp)
            have e4 : vals 4 = .slice (some ⟨b (rr), 0, none⟩) n (c (rr)) := hc0 4 (by simp)
            have e5 : vals 5 = .int .i64 ((qq : Nat) : Int) := hc0 5 (by simp)
            have e6 : vals 6 = .pointer (some ⟨b (rr), qq, none⟩) := hc0 6 (by simp)
            have e7 : vals 7 = (R (rr) (qq)) := hc0 7 (by simp)
            have e8 : vals 8 = .slice (some ⟨g, 0, none⟩) n n := hc0 8 (by simp)
            have e9 : vals 9 = .int .i64 ((k : Nat) : Int) := hc0 9 (by simp)
            have e10 : vals 10 = .pointer (some ⟨g, k, none⟩) := hc0 10 (by simp)
            have e11 : vals 11 = .slice (some ⟨b (k), 0, none⟩) n (c (k)) := hc0 11 (by simp)
            have e12 : vals 12 = .int .i64 ((k : Nat) : Int) := hc0 12 (by simp)
            have e13 : vals 13 = .pointer (some ⟨b (k), k, none⟩) := hc0 13 (by simp)
            have e14 : vals 14 = (R (k) (k)) := hc0 14 (by simp)
            have cA15 : (fun v w => IsRow w v (rst p (M rr qq) (M k k))) (vals 15) xA := hc0 15 (by simp)
            generalize ev15 : vals 15 = uA15 at cA15
            have e16 : vals 16 = .int .i64 ((L : Nat) : Int) := hc0 16 (by simp)
            have e17 : vals 17 = .bool true := hc0 17 (by simp)
            simp only [List.length_cons, List.length_nil, Nat.zero_add, Nat.reduceAdd, List.replicate, putAll, if_true, Act.put, List.setIfInBounds_toArray, List.set_cons_zero, List.set_cons_succ, e0, e1, e2, e3, e4, e5, e6, e7, e8, e9, e10, e11, e12, e13, e14, ev15, e16, e17]
            replace hb := below_step hb hBx
            replace hM := hM.below hBx
            clear hc0 hSx e0 e1 e2 e3 e4 e5 e6 e7 e8 e9 e10 e11 e12 e13 e14 ev15 e16 e17
            clear cA15
            clear hLH hrest
            go_wp2_with fail
            go_ret
            exact ⟨.inr ⟨rr, qq, rfl, hkr, hrn, hkq, hqn, hnil.out⟩, hb⟩
        · have eqn : n = qq := by omega
          subst eqn
          have hS3 := Lib.hid (fun i j (h1 : k < i) (h2 : i < rr + 1) (h3 : k < j) (h4 : j < n) => (by
            by_cases e : i = rr
            · subst e; exact hS2.out j h3 h4
            · exact hS.out i j h1 (by omega) h3 h4 : (divp p (M i j) (M k k)).2 = []))
          clear hS hS2
          go_wp2_with fail
          go_roundw
          case rel => exact ⟨rr + 1, by go_num, by omega, by omega, hS3, hM, hb⟩
          case measure => simp [intOf] <;> omega
    · have ern : n = rr := by omega
      subst ern
      go_wp2_with fail
      go_ret
      exact ⟨.inl ⟨rfl, hS.out⟩, hb⟩
end Go.Proofs.Ytnkkkgaojhkniab

/- Walks: a line of rows that grows by append; its spare places hold slices too. -/
namespace Go.Proofs.Ytnkkkgaojhkniab
open Go.RowKit
/-- A slice of q slices in a block of slices. -/
def LineB (w : World) (base e : Nat) (v : Value) (q : Nat) (R : Nat → Value) : Prop :=
  (v = .slice none 0 0 ∧ q = 0) ∨ ∃ b c, v = .slice (some ⟨b, 0, none⟩) q c ∧ base ≤ b ∧ q ≤ c ∧ c ≤ maxLen ∧ Blk w b (arr c R) e ∧ ∀ j, ∃ a m k, R j = .slice a m k
theorem LineB.owns {w : World} {base e : Nat} {v : Value} {q : Nat} {R : Nat → Value} (h : LineB w base e v q R) : w.ownsRow base e 1 v q ((List.range q).map R) := by
  refine ⟨by simp, ?_⟩
  rcases h with ⟨rfl, rfl⟩ | ⟨b, c, rfl, h1, h2, h3, h4, h5⟩
  · exact .inl ⟨rfl, rfl⟩
  · refine .inr ⟨b, c, arr c R, rfl, h1, h4, h2, h3, by rw [arr_size, Nat.mul_one], ?_⟩
    rw [Nat.mul_one]
    apply List.ext_getElem?
    intro j
    by_cases hj : j < q
    · rw [List.getElem?_take, if_pos hj, Array.getElem?_toList, arr_get_lt R (by omega), List.getElem?_map, List.getElem?_range hj]; rfl
    · rw [List.getElem?_take, if_neg hj, List.getElem?_eq_none (by simp; omega)]
theorem zeroCells_slices (k : Nat) : ∀ u ∈ (Builtin.zeroCells #[(.slice none 0 0 : Value)] k).toList, ∃ a m c, u = .slice a m c := by
  intro u hu
  unfold Builtin.zeroCells at hu
  rw [Array.toList_map, List.mem_map] at hu
  obtain ⟨i, _, rfl⟩ := hu
  have : i % #[(.slice none 0 0 : Value)].size = 0 := Nat.mod_one i
  rw [this]
  exact ⟨none, 0, 0, rfl⟩
/-- Cells that are slices, as a function. -/
theorem arr_of_slices (cs : Array Value) (h : ∀ u ∈ cs.toList, ∃ a m c, u = .slice a m c) : ∃ R : Nat → Value, cs = arr cs.size R ∧ (∀ j, ∃ a m k, R j = .slice a m k) ∧ ∀ j v, cs[j]? = some v → R j = v := by
  refine ⟨fun j => (cs[j]?).getD (.slice none 0 0), ?_, fun j => ?_, fun j v hv => by simp [hv]⟩
  · apply Array.ext_getElem?
    intro j
    rw [arr_get]
    by_cases hj : j < cs.size
    · rw [if_pos hj, Array.getElem?_eq_getElem hj]; rfl
    · rw [if_neg hj, Array.getElem?_eq_none (by omega)]
  · show ∃ a m k, (cs[j]?).getD (.slice none 0 0) = .slice a m k
    cases hj : cs[j]? with
    | none => exact ⟨none, 0, 0, rfl⟩
    | some u =>
      rw [Option.getD_some]
      refine h u ?_
      rw [← Array.getElem?_toList] at hj
      exact List.mem_of_getElem? hj
section
variable {P : Program}
theorem run_append_line (w : World) (base : Nat) (t ty e : TypeId) (ht : P.underlying t = some (.slice e)) (hinfo : (P.info? e).map (fun i => (i.zero, i.size, i.bytes)) = some (some (.slice none 0 0), 1, 24))
    (v : Value) (q : Nat) (R : Nat → Value) (hL : LineB w base e v q R) (ad : Addr) (x : Value) (hx : ∃ a m c, x = .slice a m c) (hc : w.cell? ad = some x) (hq : q ≤ 100000) (hbase : base ≤ w.heap.size) :
    ∃ v' w' R', (Builtin.append_ #[t, t] ty #[v, .slice (some ad) 1 1]).run P w = .ok v' w' ∧ LineB w' base e v' (q + 1) R' ∧ w.grownBy w' v.ownBlock ∧ (∀ j, j < q → R' j = R j) ∧ R' q = x ∧ (v'.ownBlock = v.ownBlock ∨ v'.ownBlock = some w.heap.size) := by
  obtain ⟨i, hi, hz, hsize, hbytes⟩ := info_parts hinfo
  have hx1 : x.oneCell' = true := by obtain ⟨a, m, c, rfl⟩ := hx; rfl
  have hown := hL.owns
  have hc' : ∀ j u, [x][j]? = some u → w.cell? (ad.add j) = some u := fun j u hu => by
    cases j with
    | zero => simp only [List.getElem?_cons_zero, Option.some.injEq] at hu; subst hu; unfold Addr.add; simpa using hc
    | succ j => simp at hu
  have hb : (q + 1) * 24 ≤ 140737488355328 := by omega
  obtain ⟨v', w', hr, h2, h3, _⟩ := run_append_own (P := P) w base t ty e i (.slice none 0 0) 1 24 ht hi hz hsize hbytes rfl (by decide) v q _ hown ad 1 1 [x] rfl hc' (fun u hu => by rw [List.mem_singleton] at hu; rw [hu]; exact hx1) (by unfold maxLen; omega) hb hbase
  have hRs : ∀ u ∈ (List.range q).map R ++ [x], ∃ a m c, u = Value.slice a m c := fun u hu => by
    rcases List.mem_append.1 hu with hu | hu
    · obtain ⟨j, hj, rfl⟩ := List.mem_map.1 hu
      rcases hL with ⟨_, rfl⟩ | ⟨_, _, _, _, _, _, _, h5⟩
      · simp at hj
      · exact h5 j
    · rw [List.mem_singleton.1 hu]; exact hx
  -- where it lies, and that all its cells are slices
  have key : ∃ g' cap' cur', v' = .slice (some ⟨g', 0, none⟩) (q + 1) cap' ∧ base ≤ g' ∧ Blk w' g' cur' e ∧ q + 1 ≤ cap' ∧ cap' ≤ maxLen ∧ cur'.size = cap' ∧ cur'.toList.take (q + 1) = (List.range q).map R ++ [x] ∧
      (∀ u ∈ cur'.toList, ∃ a m c, u = Value.slice a m c) ∧ (v'.ownBlock = v.ownBlock ∨ v'.ownBlock = some w.heap.size) := by
    rcases h2.2 with ⟨_, h⟩ | ⟨g', cap', cur', rfl, hg0, hg1, hg2, hg3, hg4, hg5⟩
    · omega
    · rw [Nat.mul_one] at hg4 hg5
      refine ⟨g', cap', cur', rfl, hg0, hg1, hg2, hg3, hg4, hg5, ?_⟩
      have fresh : ∀ (old : Array Value) (z : Nat) (c : Nat), (Builtin.append_ #[t, t] ty #[v, .slice (some ad) 1 1]).run P w = .ok (.slice (some ⟨w.heap.size, 0, none⟩) (q + 1) c) (w.drew.alloc (.cells (old ++ Builtin.zeroCells (Value.cells (.slice none 0 0)) z) e)) →
          (∀ u ∈ old.toList, ∃ a m c, u = Value.slice a m c) → (∀ u ∈ cur'.toList, ∃ a m c, u = Value.slice a m c) ∧ ((Value.slice (some ⟨g', 0, none⟩) (q + 1) cap').ownBlock = v.ownBlock ∨ (Value.slice (some ⟨g', 0, none⟩) (q + 1) cap').ownBlock = some w.heap.size) := fun old z c hr2 ho => by
        rw [hr] at hr2
        injection hr2 with e1 e2
        simp only [Value.slice.injEq, Option.some.injEq, Addr.mk.injEq, and_true, true_and] at e1
        obtain ⟨rfl, rfl⟩ := e1
        subst e2
        have h9 : Blk (w.drew.alloc (.cells (old ++ Builtin.zeroCells (Value.cells (.slice none 0 0)) z) e)) w.heap.size (old ++ Builtin.zeroCells (Value.cells (.slice none 0 0)) z) e := Blk.newAt (w := w.drew) rfl _ _
        unfold Blk at h9
        rw [hg1] at h9
        injection h9 with h9; injection h9 with h9
        subst h9
        refine ⟨fun u hu => ?_, Or.inr rfl⟩
        rw [Array.toList_append] at hu
        rcases List.mem_append.1 hu with hu | hu
        · exact ho u hu
        · exact zeroCells_slices z u hu
      rcases hL with ⟨rfl, rfl⟩ | ⟨b, c, rfl, hbb, hqc, hcm, hB, hsl⟩
      · have hr2 := run_append_nil (P := P) w t ty e i (.slice none 0 0) ht hi hz ad 1 1 [x] (by rw [hsize]; rfl) hc' (by omega) (by omega) (by rw [hbytes]; omega)
        exact fresh _ _ _ hr2 (fun u hu => hRs u (by simpa using hu))
      · by_cases hroom : q + 1 ≤ c
        · have hr2 := run_append_room (P := P) w t ty e i ht hi b q c (arr c R) hB ad 1 1 [x] (by rw [hsize]; rfl) hc' (fun u hu => by rw [List.mem_singleton] at hu; rw [hu]; exact hx1) hroom (by rw [arr_size, hsize]; simpa using hroom)
          rw [hr] at hr2
          injection hr2 with e1 e2
          simp only [Value.slice.injEq, Option.some.injEq, Addr.mk.injEq, and_true, true_and] at e1
          obtain ⟨rfl, rfl⟩ := e1
          subst e2
          have h9 := hB.setRow_same (cs := ((arr cap' R).toList.take (q * i.size) ++ [x] ++ (arr cap' R).toList.drop (q * i.size + [x].length)).toArray)
          unfold Blk at h9
          rw [hg1] at h9
          injection h9 with h9; injection h9 with h9
          rw [hsize, Nat.mul_one] at h9
          have h10 := h9.trans (arr_over cap' q R x (by omega))
          refine ⟨fun u hu => ?_, Or.inl rfl⟩
          obtain ⟨j, hj⟩ := List.getElem?_of_mem hu
          rw [Array.getElem?_toList, h10, arr_get] at hj
          split at hj
          · injection hj with hj
            rw [← hj]
            split
            · exact hx
            · exact hsl j
          · cases hj
        · have holds : ∀ j u, ((List.range q).map R)[j]? = some u → w.cell? ((⟨b, 0, none⟩ : Addr).add j) = some u := hown.cells (g := b) rfl
          have hr2 := run_append_grow (P := P) w t ty e i (.slice none 0 0) ht hi hz ⟨b, 0, none⟩ q c _ (by rw [hsize]; exact hown.1) holds ad 1 1 [x] (by rw [hsize]; rfl) hc' (by omega) (by omega) (growslice_fits (by omega) (by rw [hbytes]; exact hb))
          exact fresh _ _ _ hr2 (fun u hu => hRs u (by simpa using hu))
  obtain ⟨g', cap', cur', rfl, k1, k2, k3, k4, k5, k6, k7, k8⟩ := key
  obtain ⟨R', e1, e2, e3⟩ := arr_of_slices cur' k7
  rw [k5] at e1
  have hget : ∀ j u, ((List.range q).map R ++ [x])[j]? = some u → R' j = u := fun j u hu => by
    refine e3 j u ?_
    have hj := (List.getElem?_eq_some_iff.1 hu).1
    simp at hj
    rw [← k6, List.getElem?_take, if_pos (by omega), Array.getElem?_toList] at hu
    exact hu
  refine ⟨_, w', R', hr, .inr ⟨g', cap', rfl, k1, k3, k4, e1 ▸ k2, e2⟩, h3, fun j hj => hget j _ ?_, hget q x ?_, k8⟩
  · rw [List.getElem?_append_left (by simpa using hj), List.getElem?_map, List.getElem?_range hj]; rfl
  · rw [List.getElem?_append_right (by simp)]; simp
end
section
variable {P : Program} {ops : Array Oper} {rest : List Oper} {o : Oper} {a : Act} {w : World} {Q : Exit → Act → World → Prop}
theorem wpl_append_line (hw : Region.wanted o (yielded ops a.tmps) = true) (s x : Operand) (t : TypeId) (hop : o.op = .call { callee := .builtin .append, args := #[s, x], argTypes := #[t, t] })
    (base e : Nat) (ht : P.underlying t = some (.slice e)) (hinfo : (P.info? e).map (fun i => (i.zero, i.size, i.bytes)) = some (some (.slice none 0 0), 1, 24))
    (v : Value) (q : Nat) (R : Nat → Value) (hs : a.eval s = v) (hL : LineB w base e v q R) (ad : Addr) (hx : a.eval x = .slice (some ad) 1 1) (y : Value) (hy : ∃ a m c, y = .slice a m c) (hc : w.cell? ad = some y) (hq : q ≤ 100000) (hbase : base ≤ w.heap.size)
    (h : ∀ b' c' w' R', LineB w' base e (.slice (some ⟨b', 0, none⟩) (q + 1) c') (q + 1) R' → w.grownBy w' v.ownBlock → (∀ j, j < q → R' j = R j) → R' q = y → (some b' = v.ownBlock ∨ b' = w.heap.size) → wpList P ops Q rest (a.put o.dst (.slice (some ⟨b', 0, none⟩) (q + 1) c')) w') : wpList P ops Q (o :: rest) a w := by
  refine wpl_wanted hw fun K hK => ?_
  obtain ⟨v', w', R', hr, h1, h2, h3, h4, h5⟩ := run_append_line (P := P) w base t o.type e ht hinfo v q R hL ad y hy hc hq hbase
  have h1' := h1
  rcases h1 with ⟨_, h⟩ | ⟨b', c', rfl, _⟩
  · omega
  · have h6 : some b' = v.ownBlock ∨ b' = w.heap.size := h5.imp (fun h => h) (fun h => by injection h)
    unfold Oper.wp execOp
    simp only [hop, resolve, invoke, builtin, Sem.run_bind, Sem.run_pure, Result.andThen_ok, List.map_toArray, List.map_cons, List.map_nil, hs, hx, hr]
    exact hK _ _ (h b' c' w' R' h1' h2 h3 h4 h6)
end
end Go.Proofs.Ytnkkkgaojhkniab

/- Walks: a matrix that is being laid, line by line, by appends. -/
namespace Go.Proofs.Ytnkkkgaojhkniab
open Go.RowKit
/-- A block of slices that grows: rows stay. -/
theorem IsRow.grow {w w' : World} {r : Value} {xs : List Int} {g n : Nat} {R : Nat → Value} {T : TypeId} (h : IsRow w r xs) (hB : Blk w g (arr n R) T) (hR : ∀ i, i < n → ∃ a m c, R i = .slice a m c) (hu : w.grownBy w' (some g)) : IsRow w' r xs := by
  obtain ⟨oa, cap, h1, h2, h3, h4⟩ := h
  refine ⟨oa, cap, h1, h2, h3, fun hl => ?_⟩
  obtain ⟨b, off, e, hc⟩ := h4 hl
  refine ⟨b, off, e, fun i hi => ?_⟩
  by_cases hbg : b = g
  · subst hbg
    have h5 := hc i hi
    rw [hB.cell, arr_get] at h5
    split at h5
    · rename_i h6
      obtain ⟨a, m, c, h7⟩ := hR _ h6
      rw [h7] at h5
      cases h5
    · cases h5
  · exact hu.cell (hc i hi) (fun e => hbg (by injection e))
theorem IsRow.growL {w w' : World} {r v : Value} {xs : List Int} {base e q : Nat} {R : Nat → Value} (h : IsRow w r xs) (hL : LineB w base e v q R) (hu : w.grownBy w' v.ownBlock) : IsRow w' r xs := by
  rcases hL with ⟨rfl, _⟩ | ⟨b, c, rfl, _, _, _, hB, hs⟩
  · exact IsRow.grown (v := .slice none 0 0) h hu (fun k _ e => by cases e)
  · exact h.grow hB (fun j _ => hs j) hu
theorem LineB.below {w w' : World} {base e q : Nat} {v : Value} {R : Nat → Value} (h : LineB w base e v q R) (hb : Below w.heap.size w w') : LineB w' base e v q R := by
  rcases h with h | ⟨b, c, h1, h2, h3, h4, h5, h6⟩
  · exact .inl h
  · exact .inr ⟨b, c, h1, h2, h3, h4, h5.keep hb, h6⟩
theorem LineB.kept {w w' : World} {base e q : Nat} {v : Value} {R : Nat → Value} (h : LineB w base e v q R) (hb : ∀ b, v.ownBlock = some b → w'.heap[b]? = w.heap[b]?) : LineB w' base e v q R := by
  rcases h with h | ⟨b, c, h1, h2, h3, h4, h5, h6⟩
  · exact .inl h
  · refine .inr ⟨b, c, h1, h2, h3, h4, ?_, h6⟩
    unfold Blk; rw [hb b (by rw [h1]; rfl)]; exact h5
theorem LineB.lt {w : World} {base e q b : Nat} {v : Value} {R : Nat → Value} (h : LineB w base e v q R) (hb : v.ownBlock = some b) : b < w.heap.size ∧ base ≤ b := by
  rcases h with ⟨rfl, _⟩ | ⟨b', c, rfl, h2, h3, h4, h5, h6⟩
  · cases hb
  · injection hb with hb; subst hb; exact ⟨h5.lt, h2⟩
theorem LineB.mono {w : World} {base base' e q : Nat} {v : Value} {R : Nat → Value} (h : LineB w base e v q R) (hb : base' ≤ base) : LineB w base' e v q R := by
  rcases h with h | ⟨b, c, h1, h2, h3⟩
  · exact .inl h
  · exact .inr ⟨b, c, h1, Nat.le_trans hb h2, h3⟩
theorem LineB.ne {w : World} {base q b g : Nat} {v : Value} {R : Nat → Value} {cs : Array Value} (h : LineB w base 55 v q R) (hb : v.ownBlock = some b) (hg : Blk w g cs 49) : b ≠ g := fun e => by
  rcases h with ⟨rfl, _⟩ | ⟨b', c, rfl, h2, h3, h4, h5, h6⟩
  · cases hb
  · injection hb with hb
    unfold Blk at h5 hg
    rw [show b' = g from hb.trans e, hg] at h5
    injection h5 with h5; injection h5 with _ h7
    exact absurd h7 (by decide)
structure BldB (w : World) (B g n : Nat) (L : Nat → Value) (ln : Nat → Nat) (R : Nat → Nat → Value) (M : MxL) : Prop where
  out : Blk w g (arr n L) 49
  hg : B ≤ g
  sl : ∀ i, ∃ a m k, L i = .slice a m k
  line : ∀ i, i < n → LineB w B 55 (L i) (ln i) (R i)
  inj : ∀ i j b, i < n → j < n → i ≠ j → (L i).ownBlock = some b → (L j).ownBlock ≠ some b
  row : ∀ i j, i < n → j < ln i → IsRow w (R i j) (M i j)
theorem BldB.start (w : World) (n : Nat) (R : Nat → Nat → Value) (M : MxL) : BldB (w.alloc (.cells (arr n fun _ => .slice none 0 0) 49)) w.heap.size w.heap.size n (fun _ => .slice none 0 0) (fun _ => 0) R M :=
  ⟨Blk.new _ _ _, Nat.le_refl _, fun _ => ⟨_, _, _, rfl⟩, fun _ _ => .inl ⟨rfl, rfl⟩, fun _ _ _ _ _ _ h => (by cases h), fun _ j _ h => absurd h (by omega)⟩
theorem BldB.below {w w' : World} {B g n : Nat} {L : Nat → Value} {ln : Nat → Nat} {R : Nat → Nat → Value} {M : MxL} (h : BldB w B g n L ln R M) (hb : Below w.heap.size w w') : BldB w' B g n L ln R M :=
  ⟨h.out.keep hb, h.hg, h.sl, fun i hi => (h.line i hi).below hb, h.inj, fun i j hi hj => (h.row i j hi hj).below hb⟩
theorem BldB.cell {w : World} {B g n : Nat} {L : Nat → Value} {ln : Nat → Nat} {R : Nat → Nat → Value} {M : MxL} (h : BldB w B g n L ln R M) {i : Nat} (hi : i < n) : w.cell? ⟨g, i, none⟩ = some (L i) := by
  rw [h.out.cell]; exact arr_get_lt _ hi
def updF {α : Type} (f : Nat → α) (i : Nat) (v : α) : Nat → α := fun j => if j = i then v else f j
theorem updF_at {α : Type} (f : Nat → α) (i : Nat) (v : α) : updF f i v i = v := if_pos rfl
theorem updF_ne {α : Type} (f : Nat → α) {i j : Nat} (v : α) (h : j ≠ i) : updF f i v j = f j := if_neg h
/-- What stays through an append to a line. -/
theorem BldB.mid {w w2 : World} {B g n : Nat} {L : Nat → Value} {ln : Nat → Nat} {R : Nat → Nat → Value} {M : MxL} (h : BldB w B g n L ln R M) {r : Nat} (hr : r < n) (hg : w.grownBy w2 (L r).ownBlock) : Blk w2 g (arr n L) 49 := by
  unfold Blk
  rw [hg.block g h.out.lt fun e => (h.line r hr).ne e.symm h.out rfl]
  exact h.out
theorem BldB.push {w w2 : World} {B g n : Nat} {L : Nat → Value} {ln : Nat → Nat} {R : Nat → Nat → Value} {M : MxL} (h : BldB w B g n L ln R M) {r b' c' : Nat} {R' : Nat → Value} {x : Value} {xs : List Int} (hr : r < n)
    (hL : LineB w2 B 55 (.slice (some ⟨b', 0, none⟩) (ln r + 1) c') (ln r + 1) R') (hg : w.grownBy w2 (L r).ownBlock) (hR1 : ∀ j, j < ln r → R' j = R r j) (hR2 : R' (ln r) = x) (hbl : some b' = (L r).ownBlock ∨ b' = w.heap.size) (hx : IsRow w x xs) :
    BldB (w2.setCell ⟨g, r, none⟩ (.slice (some ⟨b', 0, none⟩) (ln r + 1) c')) B g n (updF L r (.slice (some ⟨b', 0, none⟩) (ln r + 1) c')) (updF ln r (ln r + 1)) (updF R r R') (updR M r (ln r) xs) := by
  have hmid := h.mid hr hg
  have hother : ∀ q, q ≠ g → (w2.setCell ⟨g, r, none⟩ (.slice (some ⟨b', 0, none⟩) (ln r + 1) c')).heap[q]? = w2.heap[q]? := fun q hq => heap_setCell_other _ _ _ _ hq
  have hrow : ∀ (v : Value) (ys : List Int), IsRow w v ys → IsRow (w2.setCell ⟨g, r, none⟩ (.slice (some ⟨b', 0, none⟩) (ln r + 1) c')) v ys := fun v ys hv =>
    (hv.growL (h.line r hr) hg).upd hmid (fun i _ => h.sl i) hother
  refine ⟨?_, h.hg, fun i => ?_, fun i hi => ?_, fun i j b hi hj hne hb => ?_, fun i j hi hj => ?_⟩
  · have := hmid.set r (.slice (some ⟨b', 0, none⟩) (ln r + 1) c')
    rw [arr_set] at this
    exact this
  · by_cases e : i = r
    · subst e; rw [updF_at]; exact ⟨_, _, _, rfl⟩
    · rw [updF_ne _ _ e]; exact h.sl i
  · by_cases e : i = r
    · subst e
      rw [updF_at, updF_at, updF_at]
      exact hL.kept fun b hb => hother b (hL.ne hb hmid)
    · rw [updF_ne _ _ e, updF_ne _ _ e, updF_ne _ _ e]
      have h1 : LineB w2 B 55 (L i) (ln i) (R i) := (h.line i hi).kept fun b hb => hg.block b ((h.line i hi).lt hb).1 fun e2 => h.inj i r b hi hr e hb e2.symm
      exact h1.kept fun b hb => hother b (h1.ne hb hmid)
  · by_cases e : i = r
    · subst e
      rw [updF_at] at hb
      rw [updF_ne _ _ (Ne.symm hne)]
      injection hb with hb
      rcases hbl with hbl | hbl
      · exact h.inj i j b hi hj hne (by rw [← hbl]; exact congrArg some hb)
      · intro h2
        have := ((h.line j hj).lt h2).1
        have : b' = b := hb
        omega
    · rw [updF_ne _ _ e] at hb
      by_cases e2 : j = r
      · subst e2
        rw [updF_at]
        intro h2
        injection h2 with h2
        rcases hbl with hbl | hbl
        · exact h.inj i j b hi hj hne hb (by rw [← hbl]; exact congrArg some h2)
        · have := ((h.line i hi).lt hb).1
          have : b' = b := h2
          omega
      · rw [updF_ne _ _ e2]; exact h.inj i j b hi hj hne hb
  · by_cases e : i = r
    · subst e
      rw [updF_at] at hj ⊢
      by_cases e2 : j = ln i
      · subst e2
        rw [hR2, updR_at]; exact hrow _ _ hx
      · rw [hR1 j (by omega), updR_ne _ _ (fun h => e2 h.2)]; exact hrow _ _ (h.row i j hi (by omega))
    · rw [updF_ne _ _ e] at hj ⊢
      rw [updR_ne _ _ (fun h => e h.1)]; exact hrow _ _ (h.row i j hi hj)
/-- All lines are laid. -/
theorem BldB.mat {w : World} {B g n : Nat} {L : Nat → Value} {ln : Nat → Nat} {R : Nat → Nat → Value} {M : MxL} (h : BldB w B g n L ln R M) (hl : ∀ i, i < n → ln i = n) (hn : 0 < n) : IsMat w B w.heap.size g n M := by
  have hch : ∀ i, ∃ b c, i < n → L i = .slice (some ⟨b, 0, none⟩) n c ∧ B ≤ b ∧ n ≤ c ∧ c ≤ maxLen ∧ Blk w b (arr c (R i)) 55 ∧ ∀ j, ∃ a m k, R i j = .slice a m k := fun i => by
    by_cases hi : i < n
    · rcases h.line i hi with ⟨_, h1⟩ | ⟨b, c, h1, h2, h3, h4, h5, h6⟩
      · rw [hl i hi] at h1; omega
      · rw [hl i hi] at h1 h3; exact ⟨b, c, fun _ => ⟨h1, h2, h3, h4, h5, h6⟩⟩
    · exact ⟨0, 0, fun h => absurd h hi⟩
  obtain ⟨b, hb⟩ := Classical.axiomOfChoice hch
  obtain ⟨c, hc⟩ := Classical.axiomOfChoice hb
  refine ⟨b, c, fun i j => if i < n then R i j else .slice none 0 0, ?_, h.hg, fun i hi => (hc i hi).2.1, h.out.lt, fun i hi => (hc i hi).2.2.2.2.1.lt, fun i hi => ⟨(hc i hi).2.2.1, (hc i hi).2.2.2.1⟩, fun i j hi hj hne e => ?_, fun i hi => ?_, fun i j => ?_, fun i j hi hj => ?_⟩
  · exact h.out.cast (arr_ext fun i hi => (hc i hi).1)
  · exact h.inj i j (b i) hi hj hne (by rw [(hc i hi).1]; rfl) (by rw [(hc j hj).1, e]; rfl)
  · have := (hc i hi).2.2.2.2.1
    exact this.cast (arr_ext fun j _ => (if_pos hi).symm)
  · by_cases hi : i < n
    · rw [if_pos hi]; exact (hc i hi).2.2.2.2.2 j
    · rw [if_neg hi]; exact ⟨none, 0, 0, rfl⟩
  · rw [if_pos hi]; exact h.row i j hi (by rw [hl i hi]; exact hj)
end Go.Proofs.Ytnkkkgaojhkniab

/- Walks: what the program's rounds keep beside the matrix. -/
namespace Go.Proofs.Ytnkkkgaojhkniab
open Go.RowKit
section
variable {P : Program} {Q : Exit → Act → World → Prop} {o : Oper} {a : Act} {w : World}
theorem wpv_row_slice (t e : TypeId) (x : Operand) (hop : o.op = .buildSlice t 1 #[(0, x)]) (ht : P.underlying t = some (.slice e)) (hs : (P.info? e).map (·.size) = some 1) (hz : (P.info? e).bind (·.zero) = some (.slice none 0 0)) (oa : Option Addr) (m c : Nat) (hx : a.eval x = .slice oa m c) :
    WpV P o a w (fun u w' => ∃ g, u = .slice (some ⟨g, 0, none⟩) 1 1 ∧ w'.cell? ⟨g, 0, none⟩ = some (.slice oa m c)) Q := by
  obtain ⟨ie, hie, hse⟩ := Option.map_eq_some_iff.1 hs
  have hz2 : ie.zero = some (.slice none 0 0) := by rw [hie] at hz; exact hz
  unfold WpV Oper.wp execOp
  simp [hop, hx, Instr.buildSlice, Sem.run_bind, run_underlying ht w, sizeOf, typeInfo, hie, hse, zeroValue, hz2, Instr.fill, newRow, newObj, Oper.upon, Value.cells]
  exact ⟨_, rfl, ⟨_, rfl, (Blk.new w ((Array.map (fun x => [Value.slice none 0 0][x % 1]?.getD default) (Array.range 1)).setIfInBounds 0 (Value.slice oa m c)) e).cell 0 |>.trans (by simp)⟩, below_new _ _⟩
theorem wp_append_line {K : Act → World → Prop} (s x : Operand) (t : TypeId) (hop : o.op = .call { callee := .builtin .append, args := #[s, x], argTypes := #[t, t] })
    (base e : Nat) (ht : P.underlying t = some (.slice e)) (hinfo : (P.info? e).map (fun i => (i.zero, i.size, i.bytes)) = some (some (.slice none 0 0), 1, 24))
    (v : Value) (q : Nat) (R : Nat → Value) (hs : a.eval s = v) (hL : LineB w base e v q R) (ad : Addr) (hx : a.eval x = .slice (some ad) 1 1) (y : Value) (hy : ∃ a m c, y = .slice a m c) (hc : w.cell? ad = some y) (hq : q ≤ 100000) (hbase : base ≤ w.heap.size)
    (h : ∀ b' c' w' R', LineB w' base e (.slice (some ⟨b', 0, none⟩) (q + 1) c') (q + 1) R' → w.grownBy w' v.ownBlock → (∀ j, j < q → R' j = R j) → R' q = y → K (a.put o.dst (.slice (some ⟨b', 0, none⟩) (q + 1) c')) w') : o.wp P a w K Q := by
  obtain ⟨v', w', R', hr, h1, h2, h3, h4, h5⟩ := run_append_line (P := P) w base t o.type e ht hinfo v q R hL ad y hy hc hq hbase
  have h1' := h1
  rcases h1 with ⟨_, h⟩ | ⟨b', c', rfl, _⟩
  · omega
  · unfold Oper.wp execOp
    simp only [hop, resolve, invoke, builtin, Sem.run_bind, Sem.run_pure, Result.andThen_ok, List.map_toArray, List.map_cons, List.map_nil, hs, hx, hr]
    exact h b' c' w' R' h1' h2 h3 h4
end
/-- The list that has been told so far. -/
structure OutS (B U : Nat) (w wr : World) (vo : Value) (kk : Nat) (Ro : Nat → Value) (D : Nat → List Int) : Prop where
  line : LineB wr U 55 vo kk Ro
  rows : ∀ i, i < kk → IsRow wr (Ro i) (D i)
  bel : Below B w wr
  size : U ≤ wr.heap.size
theorem OutS.below {B U : Nat} {w wr w' : World} {vo : Value} {kk : Nat} {Ro : Nat → Value} {D : Nat → List Int} (h : OutS B U w wr vo kk Ro D) (hBU : B ≤ U) (k : Below wr.heap.size wr w') : OutS B U w w' vo kk Ro D :=
  ⟨h.line.below k, fun i hi => (h.rows i hi).below k, h.bel.trans (k.mono (Nat.le_trans hBU h.size)), Nat.le_trans h.size k.size⟩
theorem OutS.kept {B U : Nat} {w wr w' : World} {vo : Value} {kk : Nat} {Ro : Nat → Value} {D : Nat → List Int} (h : OutS B U w wr vo kk Ro D) (k : Kept B U wr w') : OutS B U w w' vo kk Ro D :=
  ⟨h.line.kept fun b hb => k.up b (h.line.lt hb).2 (h.line.lt hb).1, fun i hi => k.rows _ _ (h.rows i hi), h.bel.trans k.bel, Nat.le_trans h.size k.bel.size⟩
/-- Where a round stands. -/
def InvM (p : Int) (n : Nat) (A : Nat → Nat → PS) (kk B U g : Nat) (w : World) (vo : Value) (Ro : Nat → Value) (D : Nat → List Int) (wr : World) (m : Nat) : Prop :=
  ∃ M : MxL, Sm p n A kk M ∧ Far p n kk m M ∧ IsMat wr B U g n M ∧ OutS B U w wr vo kk Ro (fun i => monic p (D i)) ∧ ∀ i, i < kk → M i i = D i
/-- Places ahead of q of line k are done. -/
def spoilPart (p : Int) (k bad q : Nat) (M : MxL) : MxL := fun i j => if i = k ∧ k ≤ j ∧ j < q then addp p (M k j) (M bad j) 1 else M i j
section
variable {p : Int} {n k bad q : Nat} {M : MxL}
theorem spoilPart_start {i j : Nat} : spoilPart p k bad k M i j = M i j := if_neg (by omega)
theorem spoilPart_at {j : Nat} (h : q ≤ j) : spoilPart p k bad q M k j = M k j := if_neg (by omega)
theorem spoilPart_bad {j : Nat} (h : k < bad) : spoilPart p k bad q M bad j = M bad j := if_neg (by omega)
theorem spoilPart_next (hq : k ≤ q) {xs : List Int} (e : xs = addp p (M k q) (M bad q) 1) : updR (spoilPart p k bad q M) k q xs = spoilPart p k bad (q + 1) M := by
  funext i j
  by_cases h : i = k ∧ j = q
  · obtain ⟨rfl, rfl⟩ := h
    rw [updR_at, e]; exact (if_pos (by omega)).symm
  · rw [updR_ne _ _ h]
    unfold spoilPart
    by_cases h2 : i = k ∧ k ≤ j ∧ j < q
    · rw [if_pos h2, if_pos (by omega)]
    · rw [if_neg h2, if_neg (by omega)]
theorem spoilPart_all {i j : Nat} : spoilPart p k bad n M i j = spoil p n k bad M i j := rfl
theorem swpM_diag {x y i : Nat} (hx : k ≤ x) (hy : k ≤ y) (hi : i < k) : swpM k x y M i i = M i i := by unfold swpM; rw [swp_lt hx hi, swp_lt hy hi]
theorem clrM_diag {i : Nat} (hi : i < k) : clrM p n k M i i = M i i := by unfold clrM; rw [colPh_neg (by omega), rowPh_neg (by omega)]
theorem spoil_diag {i : Nat} (hi : i < k) : spoil p n k bad M i i = M i i := if_neg (by omega)
end
theorem dec_bool (P : Prop) : ∃ b : Bool, P ↔ b = true := by
  by_cases h : P
  · exact ⟨true, fun _ => rfl, fun _ => h⟩
  · exact ⟨false, fun h2 => absurd h2 h, fun h2 => by cases h2⟩
end Go.Proofs.Ytnkkkgaojhkniab
