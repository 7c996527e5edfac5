/- Walks: a line with an entry that the corner does not divide. -/
import Derived.Test.YtnkkkgaojhkniabMt4
set_option linter.unusedVariables false
set_option linter.unusedSimpArgs false
namespace Go.Proofs.Ytnkkkgaojhkniab
open Go.RowKit
def spoilPost (p : Int) (n k : Nat) (M : MxL) (w : World) (e : Ending) (w' : World) : Prop :=
  ((e = .returned (.int .i64 (-1)) ∧ ∀ i j, k < i → i < n → k < j → j < n → (divp p (M i j) (M k k)).2 = []) ∨ ∃ bad j : Nat, e = .returned (.int .i64 (bad : Int)) ∧ k < bad ∧ bad < n ∧ k < j ∧ j < n ∧ (divp p (M bad j) (M k k)).2 ≠ []) ∧ Below w.heap.size w w'
set_option maxRecDepth 20000 in
set_option maxHeartbeats 4000000 in
theorem spoiler_any (B U g n k : Nat) (p : Int) (M : MxL) (w : World) (hp : Pr p) (h : IsMat w B U g n M) (hn : n ≤ 6) (hk : k < n) (hpo : ∀ i j, Part k n i → Part k n j → Po p (M i j) ∧ (M i j).length ≤ 100) (hne : M k k ≠ []) :
    Calls Try.prog 66 #[.int .i64 p, .slice (some ⟨g, 0, none⟩) n n, .int .i64 k] w (spoilPost p n k M w) := by
  obtain ⟨b, c, R, hM⟩ := h
  have hpH := Lib.hid hp
  have hpoH := Lib.hid hpo
  have hneH := Lib.hid hne
  clear hp hpo hne
  have hnI : (n : Int) ≤ 6 := by omega
  have hkn : (k : Int) < (n : Int) := by omega
  go_enter Try.func66, Try.ntmps66
  go_wp2_with fail
  go_loopw [7] (fun vi wr => ∃ rr : Nat, vi = .int .i64 (rr : Int) ∧ k < rr ∧ rr ≤ n ∧ Hid (∀ i j, k < i → i < rr → k < j → j < n → (divp p (M i j) (M k k)).2 = []) ∧ MatB wr B U g n b c R M ∧ Below w.heap.size w wr) (fun vi _ => n - (intOf vi).toNat)
  case atStart => exact ⟨k + 1, by go_num, by omega, by omega, Lib.hid fun i j h1 h2 => absurd h1 (by omega), hM, Below.refl _ _⟩
  case round =>
    clear hM
    obtain ⟨rr, rfl, hkr, hrn', hS, hM, hb⟩ := hrel
    rename World => w0
    by_cases hrn : rr < n
    · have hrI : (rr : Int) < (n : Int) := by omega
      go_wp2_with fail
      go_loopw [8] (fun vj wr => ∃ qq : Nat, vj = .int .i64 (qq : Int) ∧ k < qq ∧ qq ≤ n ∧ Hid (∀ j, k < j → j < qq → (divp p (M rr j) (M k k)).2 = []) ∧ MatB wr B U g n b c R M ∧ Below w.heap.size w wr) (fun vj _ => n - (intOf vj).toNat)
      case atStart => exact ⟨k + 1, by go_num, by omega, by omega, Lib.hid fun j h1 h2 => absurd h1 (by omega), hM, hb⟩
      case round =>
        clear hM hb
        obtain ⟨qq, rfl, hkq, hqn', hS2, hM, hb⟩ := hrel
        by_cases hqn : qq < n
        · have hqI : (qq : Int) < (n : Int) := by omega
          have hrest := Lib.hid (fun (w2 : World) (hm : MatB w2 B U g n b c R M) => rest_any (R rr qq) (R k k) (M rr qq) (M k k) p w2 hpH.out (hm.row rr qq hrn hqn) (hm.row k k hk hk) (hpoH.out rr qq ⟨by omega, hrn⟩ ⟨by omega, hqn⟩).1 (hpoH.out k k ⟨Nat.le_refl k, hk⟩ ⟨Nat.le_refl k, hk⟩).1 hneH.out
            (by have := (hpoH.out rr qq ⟨by omega, hrn⟩ ⟨by omega, hqn⟩).2; omega) (by have := (hpoH.out k k ⟨Nat.le_refl k, hk⟩ ⟨Nat.le_refl k, hk⟩).2; omega))
          obtain ⟨L, hL⟩ : ∃ L, (rst p (M rr qq) (M k k)).length = L := ⟨_, rfl⟩
          have hLH := Lib.hid hL
          clear hL
          by_cases hz : L = 0
          · have hq0 : cmpB .gtr (L : Int) 0 = false := by subst hz; rfl
            have hnil := Lib.hid (show (divp p (M rr qq) (M k k)).2 = [] from List.length_eq_zero_iff.1 (hLH.out.trans hz))
            clear hz
            go_upto_region 7 with (fail)
            refine gen_guard (w := _) (by kernel_rfl) (by kernel_rfl) (by kernel_rfl)
                (fun i => ([fun zv _ => zv = .int .i64 p, fun zv _ => zv = .slice (some ⟨g, 0, none⟩) n n, fun zv _ => zv = .int .i64 ((rr : Nat) : Int), fun zv _ => zv = .pointer (some ⟨g, rr, none⟩), fun zv _ => zv = .slice (some ⟨b (rr), 0, none⟩) n (c (rr)), fun zv _ => zv = .int .i64 ((qq : Nat) : Int), fun zv _ => zv = .pointer (some ⟨b (rr), qq, none⟩), fun zv _ => zv = (R (rr) (qq)), fun zv _ => zv = .slice (some ⟨g, 0, none⟩) n n, fun zv _ => zv = .int .i64 ((k : Nat) : Int), fun zv _ => zv = .pointer (some ⟨g, k, none⟩), fun zv _ => zv = .slice (some ⟨b (k), 0, none⟩) n (c (k)), fun zv _ => zv = .int .i64 ((k : Nat) : Int), fun zv _ => zv = .pointer (some ⟨b (k), k, none⟩), fun zv _ => zv = (R (k) (k)), fun v w => IsRow w v (rst p (M rr qq) (M k k)), fun zv _ => zv = .int .i64 ((L : Nat) : Int), fun zv _ => zv = .bool false] : List (Value → World → Prop)).getD i (fun _ _ => True))
                (fun w' => True) trivial (fun w1 w2 h hb => trivial) ?_ ?_ ?_
            · intro i v w1 w2 h hb
              rcases i with _|_|_|_|_|_|_|_|_|_|_|_|_|_|_|_|_|_|i
              · exact h
              · exact h
              · exact h
              · exact h
              · exact h
              · exact h
              · exact h
              · exact h
              · exact h
              · exact h
              · exact h
              · exact h
              · exact h
              · exact h
              · exact h
              · exact (show IsRow w1 v (rst p (M rr qq) (M k k)) from h).below hb
              · exact h
              · exact h
              · exact h
            · intro i o ho a w2 hBl hSx hrd hpar
              rcases i with _|_|_|_|_|_|_|_|_|_|_|_|_|_|_|_|_|_|i
              · obtain rfl := Option.some.inj ho
                refine .inl ⟨rfl, ?_⟩
                have e0 : a.eval (.tmp 0) = .int .i64 p := hpar 0 _ (by kernel_rfl) (by kernel_rfl)
                exact wpv_of (wp_move _ _ rfl e0) (fun _ _ => rfl)
              · obtain rfl := Option.some.inj ho
                refine .inl ⟨rfl, ?_⟩
                have e1 : a.eval (.tmp 1) = .slice (some ⟨g, 0, none⟩) n n := hpar 1 _ (by kernel_rfl) (by kernel_rfl)
                exact wpv_of (wp_move _ _ rfl e1) (fun _ _ => rfl)
              · obtain rfl := Option.some.inj ho
                refine .inl ⟨rfl, ?_⟩
                have e7 : a.eval (.tmp 7) = .int .i64 ((rr : Nat) : Int) := hpar 7 _ (by kernel_rfl) (by kernel_rfl)
                exact wpv_of (wp_move _ _ rfl e7) (fun _ _ => rfl)
              · obtain rfl := Option.some.inj ho
                refine .inl ⟨rfl, ?_⟩
                have e26 : a.eval (.tmp 26) = .slice (some ⟨g, 0, none⟩) n n := hrd 1 _ 26 rfl rfl (by kernel_rfl) (by kernel_rfl)
                have e27 : a.eval (.tmp 27) = .int .i64 ((rr : Nat) : Int) := hrd 2 _ 27 rfl rfl (by kernel_rfl) (by kernel_rfl)
                exact wpv_of (wp_index_row1 77 49 _ _ rfl uMatT sLinT g n n (rr) .i64 e26 e27 hrn) (fun _ _ => rfl)
              · obtain rfl := Option.some.inj ho
                refine .inl ⟨rfl, ?_⟩
                have e28 : a.eval (.tmp 28) = .pointer (some ⟨g, rr, none⟩) := hrd 3 _ 28 rfl rfl (by kernel_rfl) (by kernel_rfl)
                exact wpv_of (wp_load_slice 49 55 _ rfl _ e28 uLinT _ ((hM.below hBl).cell1 hrn)) (fun _ _ => rfl)
              · obtain rfl := Option.some.inj ho
                refine .inl ⟨rfl, ?_⟩
                have e8 : a.eval (.tmp 8) = .int .i64 ((qq : Nat) : Int) := hpar 8 _ (by kernel_rfl) (by kernel_rfl)
                exact wpv_of (wp_move _ _ rfl e8) (fun _ _ => rfl)
              · obtain rfl := Option.some.inj ho
                refine .inl ⟨rfl, ?_⟩
                have e29 : a.eval (.tmp 29) = .slice (some ⟨b (rr), 0, none⟩) n (c (rr)) := hrd 4 _ 29 rfl rfl (by kernel_rfl) (by kernel_rfl)
                have e30 : a.eval (.tmp 30) = .int .i64 ((qq : Nat) : Int) := hrd 5 _ 30 rfl rfl (by kernel_rfl) (by kernel_rfl)
                exact wpv_of (wp_index_row1 49 55 _ _ rfl uLinT sEntT (b (rr)) n (c (rr)) (qq) .i64 e29 e30 hqn) (fun _ _ => rfl)
              · obtain rfl := Option.some.inj ho
                refine .inl ⟨rfl, ?_⟩
                have e31 : a.eval (.tmp 31) = .pointer (some ⟨b (rr), qq, none⟩) := hrd 6 _ 31 rfl rfl (by kernel_rfl) (by kernel_rfl)
                exact wpv_of (wp_load_slice 55 2 _ rfl _ e31 uEntT _ ((hM.below hBl).cell2 hrn hqn)) (fun _ _ => rfl)
              · obtain rfl := Option.some.inj ho
                refine .inl ⟨rfl, ?_⟩
                have e1 : a.eval (.tmp 1) = .slice (some ⟨g, 0, none⟩) n n := hpar 1 _ (by kernel_rfl) (by kernel_rfl)
                exact wpv_of (wp_move _ _ rfl e1) (fun _ _ => rfl)
              · obtain rfl := Option.some.inj ho
                refine .inl ⟨rfl, ?_⟩
                have e2 : a.eval (.tmp 2) = .int .i64 ((k : Nat) : Int) := hpar 2 _ (by kernel_rfl) (by kernel_rfl)
                exact wpv_of (wp_move _ _ rfl e2) (fun _ _ => rfl)
              · obtain rfl := Option.some.inj ho
                refine .inl ⟨rfl, ?_⟩
                have e33 : a.eval (.tmp 33) = .slice (some ⟨g, 0, none⟩) n n := hrd 8 _ 33 rfl rfl (by kernel_rfl) (by kernel_rfl)
                have e34 : a.eval (.tmp 34) = .int .i64 ((k : Nat) : Int) := hrd 9 _ 34 rfl rfl (by kernel_rfl) (by kernel_rfl)
                exact wpv_of (wp_index_row1 77 49 _ _ rfl uMatT sLinT g n n (k) .i64 e33 e34 hk) (fun _ _ => rfl)
              · obtain rfl := Option.some.inj ho
                refine .inl ⟨rfl, ?_⟩
                have e35 : a.eval (.tmp 35) = .pointer (some ⟨g, k, none⟩) := hrd 10 _ 35 rfl rfl (by kernel_rfl) (by kernel_rfl)
                exact wpv_of (wp_load_slice 49 55 _ rfl _ e35 uLinT _ ((hM.below hBl).cell1 hk)) (fun _ _ => rfl)
              · obtain rfl := Option.some.inj ho
                refine .inl ⟨rfl, ?_⟩
                have e2 : a.eval (.tmp 2) = .int .i64 ((k : Nat) : Int) := hpar 2 _ (by kernel_rfl) (by kernel_rfl)
                exact wpv_of (wp_move _ _ rfl e2) (fun _ _ => rfl)
              · obtain rfl := Option.some.inj ho
                refine .inl ⟨rfl, ?_⟩
                have e36 : a.eval (.tmp 36) = .slice (some ⟨b (k), 0, none⟩) n (c (k)) := hrd 11 _ 36 rfl rfl (by kernel_rfl) (by kernel_rfl)
                have e37 : a.eval (.tmp 37) = .int .i64 ((k : Nat) : Int) := hrd 12 _ 37 rfl rfl (by kernel_rfl) (by kernel_rfl)
                exact wpv_of (wp_index_row1 49 55 _ _ rfl uLinT sEntT (b (k)) n (c (k)) (k) .i64 e36 e37 hk) (fun _ _ => rfl)
              · obtain rfl := Option.some.inj ho
                refine .inl ⟨rfl, ?_⟩
                have e38 : a.eval (.tmp 38) = .pointer (some ⟨b (k), k, none⟩) := hrd 13 _ 38 rfl rfl (by kernel_rfl) (by kernel_rfl)
                exact wpv_of (wp_load_slice 55 2 _ rfl _ e38 uEntT _ ((hM.below hBl).cell2 hk hk)) (fun _ _ => rfl)
              · obtain rfl := Option.some.inj ho
                refine .inl ⟨rfl, ?_⟩
                have e25 : a.eval (.tmp 25) = .int .i64 p := hrd 0 _ 25 rfl rfl (by kernel_rfl) (by kernel_rfl)
                have e32 : a.eval (.tmp 32) = (R (rr) (qq)) := hrd 7 _ 32 rfl rfl (by kernel_rfl) (by kernel_rfl)
                have e39 : a.eval (.tmp 39) = (R (k) (k)) := hrd 14 _ 39 rfl rfl (by kernel_rfl) (by kernel_rfl)
                exact wpv_call 88 [.tmp 25, .tmp 32, .tmp 39] _ rfl [.int .i64 p, (R (rr) (qq)), (R (k) (k))] (by simp only [List.map_cons, List.map_nil, e25, e32, e39]) Try.call88 (hrest.out w2 (hM.below hBl))
              · obtain rfl := Option.some.inj ho
                refine .inl ⟨rfl, ?_⟩
                have h40 : (fun v w => IsRow w v (rst p (M rr qq) (M k k))) (a.eval (.tmp 40)) w2 := hrd 15 _ 40 rfl rfl (by kernel_rfl) (by kernel_rfl)
                generalize e40 : a.eval (.tmp 40) = v40 at h40
                obtain ⟨oR, cR, hRe⟩ := (show IsRow w2 v40 (rst p (M rr qq) (M k k)) from h40).form
                rw [hLH.out] at hRe
                exact wpv_of (wp_len _ 55 2 uEntT rfl oR L cR (e40.trans hRe)) (fun _ _ => rfl)
              · obtain rfl := Option.some.inj ho
                refine .inl ⟨rfl, ?_⟩
                have e41 : a.eval (.tmp 41) = .int .i64 ((L : Nat) : Int) := hrd 16 _ 41 rfl rfl (by kernel_rfl) (by kernel_rfl)
                exact wpv_of (wp_cmp .gtr _ _ _ _ rfl rfl .i64 _ _ e41 rfl _ hq0) (fun _ _ => rfl)
              · simp at ho
            intro vals xB hBx hSx hc0
            have e0 : vals 0 = .int .i64 p := hc0 0 (by simp)
            have e1 : vals 1 = .slice (some ⟨g, 0, none⟩) n n := hc0 1 (by simp)
            have e2 : vals 2 = .int .i64 ((rr : Nat) : Int) := hc0 2 (by simp)
            have e3 : vals 3 = .pointer (some ⟨g, rr, none⟩) := hc0 3 (by simp)
            have e4 : vals 4 = .slice (some ⟨b (rr), 0, none⟩) n (c (rr)) := hc0 4 (by simp)
            have e5 : vals 5 = .int .i64 ((qq : Nat) : Int) := hc0 5 (by simp)
            have e6 : vals 6 = .pointer (some ⟨b (rr), qq, none⟩) := hc0 6 (by simp)
            have e7 : vals 7 = (R (rr) (qq)) := hc0 7 (by simp)
            have e8 : vals 8 = .slice (some ⟨g, 0, none⟩) n n := hc0 8 (by simp)
            have e9 : vals 9 = .int .i64 ((k : Nat) : Int) := hc0 9 (by simp)
            have e10 : vals 10 = .pointer (some ⟨g, k, none⟩) := hc0 10 (by simp)
            have e11 : vals 11 = .slice (some ⟨b (k), 0, none⟩) n (c (k)) := hc0 11 (by simp)
            have e12 : vals 12 = .int .i64 ((k : Nat) : Int) := hc0 12 (by simp)
            have e13 : vals 13 = .pointer (some ⟨b (k), k, none⟩) := hc0 13 (by simp)
            have e14 : vals 14 = (R (k) (k)) := hc0 14 (by simp)
            have cB15 : (fun v w => IsRow w v (rst p (M rr qq) (M k k))) (vals 15) xB := hc0 15 (by simp)
            generalize ev15 : vals 15 = uB15 at cB15
            have e16 : vals 16 = .int .i64 ((L : Nat) : Int) := hc0 16 (by simp)
            have e17 : vals 17 = .bool false := hc0 17 (by simp)
            simp only [List.length_cons, List.length_nil, Nat.zero_add, Nat.reduceAdd, List.replicate, putAll, if_true, Act.put, List.setIfInBounds_toArray, List.set_cons_zero, List.set_cons_succ, e0, e1, e2, e3, e4, e5, e6, e7, e8, e9, e10, e11, e12, e13, e14, ev15, e16, e17]
            replace hb := below_step hb hBx
            replace hM := hM.below hBx
            clear hc0 hSx e0 e1 e2 e3 e4 e5 e6 e7 e8 e9 e10 e11 e12 e13 e14 ev15 e16 e17
            clear cB15
            clear hLH hrest
            go_wp2_with fail
            go_roundw
            case rel => exact ⟨qq + 1, by go_num, by omega, by omega, Lib.hid fun j h1 h2 => by
              by_cases e : j = qq
              · subst e; exact hnil.out
              · exact hS2.out j h1 (by omega), hM, hb⟩
            case measure => simp [intOf] <;> omega
          · have hq0 : cmpB .gtr (L : Int) 0 = true := by simp [cmpB]; omega
            have hnil := Lib.hid (show (divp p (M rr qq) (M k k)).2 ≠ [] from fun e => hz (hLH.out.symm.trans (congrArg List.length e)))
            clear hz
            go_upto_region 7 with (fail)
            refine gen_guard (w := _) (by kernel_rfl) (by kernel_rfl) (by kernel_rfl)
                (fun i => ([fun zv _ => zv = .int .i64 p, fun zv _ => zv = .slice (some ⟨g, 0, none⟩) n n, fun zv _ => zv = .int .i64 ((rr : Nat) : Int), fun zv _ => zv = .pointer (some ⟨g, rr, none⟩), fun zv _ => zv = .slice (some ⟨b (rr), 0, none⟩) n (c (rr)), fun zv _ => zv = .int .i64 ((qq : Nat) : Int), fun zv _ => zv = .pointer (some ⟨b (rr), qq, none⟩), fun zv _ => zv = (R (rr) (qq)), fun zv _ => zv = .slice (some ⟨g, 0, none⟩) n n, fun zv _ => zv = .int .i64 ((k : Nat) : Int), fun zv _ => zv = .pointer (some ⟨g, k, none⟩), fun zv _ => zv = .slice (some ⟨b (k), 0, none⟩) n (c (k)), fun zv _ => zv = .int .i64 ((k : Nat) : Int), fun zv _ => zv = .pointer (some ⟨b (k), k, none⟩), fun zv _ => zv = (R (k) (k)), fun v w => IsRow w v (rst p (M rr qq) (M k k)), fun zv _ => zv = .int .i64 ((L : Nat) : Int), fun zv _ => zv = .bool true] : List (Value → World → Prop)).getD i (fun _ _ => True))
                (fun w' => True) trivial (fun w1 w2 h hb => trivial) ?_ ?_ ?_
            · intro i v w1 w2 h hb
              rcases i with _|_|_|_|_|_|_|_|_|_|_|_|_|_|_|_|_|_|i
              · exact h
              · exact h
              · exact h
              · exact h
              · exact h
              · exact h
              · exact h
              · exact h
              · exact h
              · exact h
              · exact h
              · exact h
              · exact h
              · exact h
              · exact h
              · exact (show IsRow w1 v (rst p (M rr qq) (M k k)) from h).below hb
              · exact h
              · exact h
              · exact h
            · intro i o ho a w2 hBl hSx hrd hpar
              rcases i with _|_|_|_|_|_|_|_|_|_|_|_|_|_|_|_|_|_|i
              · obtain rfl := Option.some.inj ho
                refine .inl ⟨rfl, ?_⟩
                have e0 : a.eval (.tmp 0) = .int .i64 p := hpar 0 _ (by kernel_rfl) (by kernel_rfl)
                exact wpv_of (wp_move _ _ rfl e0) (fun _ _ => rfl)
              · obtain rfl := Option.some.inj ho
                refine .inl ⟨rfl, ?_⟩
                have e1 : a.eval (.tmp 1) = .slice (some ⟨g, 0, none⟩) n n := hpar 1 _ (by kernel_rfl) (by kernel_rfl)
                exact wpv_of (wp_move _ _ rfl e1) (fun _ _ => rfl)
              · obtain rfl := Option.some.inj ho
                refine .inl ⟨rfl, ?_⟩
                have e7 : a.eval (.tmp 7) = .int .i64 ((rr : Nat) : Int) := hpar 7 _ (by kernel_rfl) (by kernel_rfl)
                exact wpv_of (wp_move _ _ rfl e7) (fun _ _ => rfl)
              · obtain rfl := Option.some.inj ho
                refine .inl ⟨rfl, ?_⟩
                have e26 : a.eval (.tmp 26) = .slice (some ⟨g, 0, none⟩) n n := hrd 1 _ 26 rfl rfl (by kernel_rfl) (by kernel_rfl)
                have e27 : a.eval (.tmp 27) = .int .i64 ((rr : Nat) : Int) := hrd 2 _ 27 rfl rfl (by kernel_rfl) (by kernel_rfl)
                exact wpv_of (wp_index_row1 77 49 _ _ rfl uMatT sLinT g n n (rr) .i64 e26 e27 hrn) (fun _ _ => rfl)
              · obtain rfl := Option.some.inj ho
                refine .inl ⟨rfl, ?_⟩
                have e28 : a.eval (.tmp 28) = .pointer (some ⟨g, rr, none⟩) := hrd 3 _ 28 rfl rfl (by kernel_rfl) (by kernel_rfl)
                exact wpv_of (wp_load_slice 49 55 _ rfl _ e28 uLinT _ ((hM.below hBl).cell1 hrn)) (fun _ _ => rfl)
              · obtain rfl := Option.some.inj ho
                refine .inl ⟨rfl, ?_⟩
                have e8 : a.eval (.tmp 8) = .int .i64 ((qq : Nat) : Int) := hpar 8 _ (by kernel_rfl) (by kernel_rfl)
                exact wpv_of (wp_move _ _ rfl e8) (fun _ _ => rfl)
              · obtain rfl := Option.some.inj ho
                refine .inl ⟨rfl, ?_⟩
                have e29 : a.eval (.tmp 29) = .slice (some ⟨b (rr), 0, none⟩) n (c (rr)) := hrd 4 _ 29 rfl rfl (by kernel_rfl) (by kernel_rfl)
                have e30 : a.eval (.tmp 30) = .int .i64 ((qq : Nat) : Int) := hrd 5 _ 30 rfl rfl (by kernel_rfl) (by kernel_rfl)
                exact wpv_of (wp_index_row1 49 55 _ _ rfl uLinT sEntT (b (rr)) n (c (rr)) (qq) .i64 e29 e30 hqn) (fun _ _ => rfl)
              · obtain rfl := Option.some.inj ho
                refine .inl ⟨rfl, ?_⟩
                have e31 : a.eval (.tmp 31) = .pointer (some ⟨b (rr), qq, none⟩) := hrd 6 _ 31 rfl rfl (by kernel_rfl) (by kernel_rfl)
                exact wpv_of (wp_load_slice 55 2 _ rfl _ e31 uEntT _ ((hM.below hBl).cell2 hrn hqn)) (fun _ _ => rfl)
              · obtain rfl := Option.some.inj ho
                refine .inl ⟨rfl, ?_⟩
                have e1 : a.eval (.tmp 1) = .slice (some ⟨g, 0, none⟩) n n := hpar 1 _ (by kernel_rfl) (by kernel_rfl)
                exact wpv_of (wp_move _ _ rfl e1) (fun _ _ => rfl)
              · obtain rfl := Option.some.inj ho
                refine .inl ⟨rfl, ?_⟩
                have e2 : a.eval (.tmp 2) = .int .i64 ((k : Nat) : Int) := hpar 2 _ (by kernel_rfl) (by kernel_rfl)
                exact wpv_of (wp_move _ _ rfl e2) (fun _ _ => rfl)
              · obtain rfl := Option.some.inj ho
                refine .inl ⟨rfl, ?_⟩
                have e33 : a.eval (.tmp 33) = .slice (some ⟨g, 0, none⟩) n n := hrd 8 _ 33 rfl rfl (by kernel_rfl) (by kernel_rfl)
                have e34 : a.eval (.tmp 34) = .int .i64 ((k : Nat) : Int) := hrd 9 _ 34 rfl rfl (by kernel_rfl) (by kernel_rfl)
                exact wpv_of (wp_index_row1 77 49 _ _ rfl uMatT sLinT g n n (k) .i64 e33 e34 hk) (fun _ _ => rfl)
              · obtain rfl := Option.some.inj ho
                refine .inl ⟨rfl, ?_⟩
                have e35 : a.eval (.tmp 35) = .pointer (some ⟨g, k, none⟩) := hrd 10 _ 35 rfl rfl (by kernel_rfl) (by kernel_rfl)
                exact wpv_of (wp_load_slice 49 55 _ rfl _ e35 uLinT _ ((hM.below hBl).cell1 hk)) (fun _ _ => rfl)
              · obtain rfl := Option.some.inj ho
                refine .inl ⟨rfl, ?_⟩
                have e2 : a.eval (.tmp 2) = .int .i64 ((k : Nat) : Int) := hpar 2 _ (by kernel_rfl) (by kernel_rfl)
                exact wpv_of (wp_move _ _ rfl e2) (fun _ _ => rfl)
              · obtain rfl := Option.some.inj ho
                refine .inl ⟨rfl, ?_⟩
                have e36 : a.eval (.tmp 36) = .slice (some ⟨b (k), 0, none⟩) n (c (k)) := hrd 11 _ 36 rfl rfl (by kernel_rfl) (by kernel_rfl)
                have e37 : a.eval (.tmp 37) = .int .i64 ((k : Nat) : Int) := hrd 12 _ 37 rfl rfl (by kernel_rfl) (by kernel_rfl)
                exact wpv_of (wp_index_row1 49 55 _ _ rfl uLinT sEntT (b (k)) n (c (k)) (k) .i64 e36 e37 hk) (fun _ _ => rfl)
              · obtain rfl := Option.some.inj ho
                refine .inl ⟨rfl, ?_⟩
                have e38 : a.eval (.tmp 38) = .pointer (some ⟨b (k), k, none⟩) := hrd 13 _ 38 rfl rfl (by kernel_rfl) (by kernel_rfl)
                exact wpv_of (wp_load_slice 55 2 _ rfl _ e38 uEntT _ ((hM.below hBl).cell2 hk hk)) (fun _ _ => rfl)
              · obtain rfl := Option.some.inj ho
                refine .inl ⟨rfl, ?_⟩
                have e25 : a.eval (.tmp 25) = .int .i64 p := hrd 0 _ 25 rfl rfl (by kernel_rfl) (by kernel_rfl)
                have e32 : a.eval (.tmp 32) = (R (rr) (qq)) := hrd 7 _ 32 rfl rfl (by kernel_rfl) (by kernel_rfl)
                have e39 : a.eval (.tmp 39) = (R (k) (k)) := hrd 14 _ 39 rfl rfl (by kernel_rfl) (by kernel_rfl)
                exact wpv_call 88 [.tmp 25, .tmp 32, .tmp 39] _ rfl [.int .i64 p, (R (rr) (qq)), (R (k) (k))] (by simp only [List.map_cons, List.map_nil, e25, e32, e39]) Try.call88 (hrest.out w2 (hM.below hBl))
              · obtain rfl := Option.some.inj ho
                refine .inl ⟨rfl, ?_⟩
                have h40 : (fun v w => IsRow w v (rst p (M rr qq) (M k k))) (a.eval (.tmp 40)) w2 := hrd 15 _ 40 rfl rfl (by kernel_rfl) (by kernel_rfl)
                generalize e40 : a.eval (.tmp 40) = v40 at h40
                obtain ⟨oR, cR, hRe⟩ := (show IsRow w2 v40 (rst p (M rr qq) (M k k)) from h40).form
                rw [hLH.out] at hRe
                exact wpv_of (wp_len _ 55 2 uEntT rfl oR L cR (e40.trans hRe)) (fun _ _ => rfl)
              · obtain rfl := Option.some.inj ho
                refine .inl ⟨rfl, ?_⟩
                have e41 : a.eval (.tmp 41) = .int .i64 ((L : Nat) : Int) := hrd 16 _ 41 rfl rfl (by kernel_rfl) (by kernel_rfl)
                exact wpv_of (wp_cmp .gtr _ _ _ _ rfl rfl .i64 _ _ e41 rfl _ hq0) (fun _ _ => rfl)
              · simp at ho
            intro vals xA hBx hSx hc0
            have e0 : vals 0 = .int .i64 p := hc0 0 (by simp)
            have e1 : vals 1 = .slice (some ⟨g, 0, none⟩) n n := hc0 1 (by simp)
            have e2 : vals 2 = .int .i64 ((rr : Nat) : Int) := hc0 2 (by simp)
            have e3 : vals 3 = .pointer (some ⟨g, rr, none⟩) := hc0 3 (by simp)
            have e4 : vals 4 = .slice (some ⟨b (rr), 0, none⟩) n (c (rr)) := hc0 4 (by simp)
            have e5 : vals 5 = .int .i64 ((qq : Nat) : Int) := hc0 5 (by simp)
            have e6 : vals 6 = .pointer (some ⟨b (rr), qq, none⟩) := hc0 6 (by simp)
            have e7 : vals 7 = (R (rr) (qq)) := hc0 7 (by simp)
            have e8 : vals 8 = .slice (some ⟨g, 0, none⟩) n n := hc0 8 (by simp)
            have e9 : vals 9 = .int .i64 ((k : Nat) : Int) := hc0 9 (by simp)
            have e10 : vals 10 = .pointer (some ⟨g, k, none⟩) := hc0 10 (by simp)
            have e11 : vals 11 = .slice (some ⟨b (k), 0, none⟩) n (c (k)) := hc0 11 (by simp)
            have e12 : vals 12 = .int .i64 ((k : Nat) : Int) := hc0 12 (by simp)
            have e13 : vals 13 = .pointer (some ⟨b (k), k, none⟩) := hc0 13 (by simp)
            have e14 : vals 14 = (R (k) (k)) := hc0 14 (by simp)
            have cA15 : (fun v w => IsRow w v (rst p (M rr qq) (M k k))) (vals 15) xA := hc0 15 (by simp)
            generalize ev15 : vals 15 = uA15 at cA15
            have e16 : vals 16 = .int .i64 ((L : Nat) : Int) := hc0 16 (by simp)
            have e17 : vals 17 = .bool true := hc0 17 (by simp)
            simp only [List.length_cons, List.length_nil, Nat.zero_add, Nat.reduceAdd, List.replicate, putAll, if_true, Act.put, List.setIfInBounds_toArray, List.set_cons_zero, List.set_cons_succ, e0, e1, e2, e3, e4, e5, e6, e7, e8, e9, e10, e11, e12, e13, e14, ev15, e16, e17]
            replace hb := below_step hb hBx
            replace hM := hM.below hBx
            clear hc0 hSx e0 e1 e2 e3 e4 e5 e6 e7 e8 e9 e10 e11 e12 e13 e14 ev15 e16 e17
            clear cA15
            clear hLH hrest
            go_wp2_with fail
            go_ret
            exact ⟨.inr ⟨rr, qq, rfl, hkr, hrn, hkq, hqn, hnil.out⟩, hb⟩
        · have eqn : n = qq := by omega
          subst eqn
          have hS3 := Lib.hid (fun i j (h1 : k < i) (h2 : i < rr + 1) (h3 : k < j) (h4 : j < n) => (by
            by_cases e : i = rr
            · subst e; exact hS2.out j h3 h4
            · exact hS.out i j h1 (by omega) h3 h4 : (divp p (M i j) (M k k)).2 = []))
          clear hS hS2
          go_wp2_with fail
          go_roundw
          case rel => exact ⟨rr + 1, by go_num, by omega, by omega, hS3, hM, hb⟩
          case measure => simp [intOf] <;> omega
    · have ern : n = rr := by omega
      subst ern
      go_wp2_with fail
      go_ret
      exact ⟨.inl ⟨rfl, hS.out⟩, hb⟩
end Go.Proofs.Ytnkkkgaojhkniab
