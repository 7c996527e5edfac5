/- Walks: the place of the least entry. -/
import Derived.Test.YtnkkkgaojhkniabMt1
set_option linter.unusedVariables false
set_option linter.unusedSimpArgs false
namespace Go.Proofs.Ytnkkkgaojhkniab
open Go.RowKit
/-- The places that have been looked at. -/
def Seen (k n r q a b : Nat) : Prop := Part k n a ∧ Part k n b ∧ (a < r ∨ (a = r ∧ b < q))
def Scan (n k : Nat) (M : MxL) (r q : Nat) (x y : Int) : Prop :=
  (x = -1 ∧ y = -1 ∧ ∀ a b, Seen k n r q a b → M a b = []) ∨
  ∃ X Y : Nat, x = X ∧ y = Y ∧ Part k n X ∧ Part k n Y ∧ M X Y ≠ [] ∧ (∀ a b, Seen k n r q a b → M a b ≠ [] → (M X Y).length ≤ (M a b).length) ∧ ((X = k ∧ Y = k) ∨ M k k = [] ∨ (M X Y).length < (M k k).length)
theorem Scan.start (n k : Nat) (M : MxL) : Scan n k M k k (-1) (-1) := .inl ⟨rfl, rfl, fun a b h => by unfold Seen Part at h; omega⟩
theorem Scan.imp {n k : Nat} {M : MxL} {r q r' q' : Nat} {x y : Int} (h : Scan n k M r q x y) (hs : ∀ a b, Seen k n r' q' a b → M a b ≠ [] → Seen k n r q a b) : Scan n k M r' q' x y := by
  rcases h with ⟨h1, h2, h3⟩ | ⟨X, Y, h1, h2, h3, h4, h5, h6, h7⟩
  · exact .inl ⟨h1, h2, fun a b hab => Classical.byContradiction fun hn => hn (h3 a b (hs a b hab hn))⟩
  · exact .inr ⟨X, Y, h1, h2, h3, h4, h5, fun a b hab hn => h6 a b (hs a b hab hn) hn, h7⟩
theorem Scan.line {n k : Nat} {M : MxL} {r : Nat} {x y : Int} (h : Scan n k M r n x y) : Scan n k M (r + 1) k x y := h.imp fun a b hab _ => by unfold Seen Part at *; omega
theorem Scan.skip {n k : Nat} {M : MxL} {r q : Nat} {x y : Int} (h : Scan n k M r q x y) (hz : M r q = []) : Scan n k M r (q + 1) x y := h.imp fun a b hab hn => by
  by_cases e : a = r ∧ b = q
  · obtain ⟨rfl, rfl⟩ := e; exact absurd hz hn
  · unfold Seen Part at *; omega
theorem Scan.first {n k : Nat} {M : MxL} {r q : Nat} {y : Int} (h : Scan n k M r q (-1) y) (hr : Part k n r) (hq : Part k n q) (hne : M r q ≠ []) : Scan n k M r (q + 1) r q := by
  rcases h with ⟨_, _, h3⟩ | ⟨X, Y, h1, _⟩
  · refine .inr ⟨r, q, rfl, rfl, hr, hq, hne, fun a b hab hn => ?_, ?_⟩
    · by_cases e : a = r ∧ b = q
      · obtain ⟨rfl, rfl⟩ := e; exact Nat.le_refl _
      · exact absurd (h3 a b (by unfold Seen Part at *; omega)) hn
    · by_cases e : r = k ∧ q = k
      · exact .inl e
      · exact .inr (.inl (h3 k k (by unfold Seen Part at *; omega)))
  · omega
theorem Scan.keep {n k : Nat} {M : MxL} {r q X Y : Nat} (h : Scan n k M r q X Y) (hl : (M X Y).length ≤ (M r q).length) : Scan n k M r (q + 1) X Y := by
  rcases h with ⟨h1, _⟩ | ⟨X', Y', h1, h2, h3, h4, h5, h6, h7⟩
  · omega
  · obtain rfl : X = X' := by omega
    obtain rfl : Y = Y' := by omega
    refine .inr ⟨X, Y, rfl, rfl, h3, h4, h5, fun a b hab hn => ?_, h7⟩
    by_cases e : a = r ∧ b = q
    · obtain ⟨rfl, rfl⟩ := e; exact hl
    · exact h6 a b (by unfold Seen Part at *; omega) hn
theorem Scan.less {n k : Nat} {M : MxL} {r q X Y : Nat} (h : Scan n k M r q X Y) (hr : Part k n r) (hq : Part k n q) (hne : M r q ≠ []) (hl : (M r q).length < (M X Y).length) : Scan n k M r (q + 1) r q := by
  rcases h with ⟨h1, _⟩ | ⟨X', Y', h1, h2, h3, h4, h5, h6, h7⟩
  · omega
  · obtain rfl : X = X' := by omega
    obtain rfl : Y = Y' := by omega
    refine .inr ⟨r, q, rfl, rfl, hr, hq, hne, fun a b hab hn => ?_, ?_⟩
    · by_cases e : a = r ∧ b = q
      · obtain ⟨rfl, rfl⟩ := e; exact Nat.le_refl _
      · have := h6 a b (by unfold Seen Part at *; omega) hn; omega
    · rcases h7 with ⟨rfl, rfl⟩ | h7 | h7
      · exact .inr (.inr hl)
      · exact .inr (.inl h7)
      · exact .inr (.inr (by omega))
theorem Scan.found {n k : Nat} {M : MxL} {x y : Int} (h : Scan n k M n k x y) (hex : ∃ a b, Part k n a ∧ Part k n b ∧ M a b ≠ []) : ∃ X Y : Nat, x = X ∧ y = Y ∧ Small n k M X Y := by
  rcases h with ⟨_, _, h3⟩ | ⟨X, Y, h1, h2, h3, h4, h5, h6, h7⟩
  · obtain ⟨a, b, ha, hb, hn⟩ := hex
    exact absurd (h3 a b (by unfold Seen Part at *; omega)) hn
  · exact ⟨X, Y, h1, h2, h3, h4, h5, fun a b ha hb hn => h6 a b (by unfold Seen Part at *; omega) hn, h7⟩
theorem Scan.at {n k : Nat} {M : MxL} {r q : Nat} {x y : Int} (h : Scan n k M r q x y) : (x = -1 ∧ y = -1) ∨ ∃ X Y : Nat, x = X ∧ y = Y ∧ X < n ∧ Y < n := by
  rcases h with ⟨h1, h2, _⟩ | ⟨X, Y, h1, h2, h3, h4, _⟩
  · exact .inl ⟨h1, h2⟩
  · exact .inr ⟨X, Y, h1, h2, h3.2, h4.2⟩
theorem IsRow.form {w : World} {v : Value} {xs : List Int} (h : IsRow w v xs) : ∃ oa ca, v = .slice oa xs.length ca := by
  obtain ⟨oa, ca, h1, _⟩ := h; exact ⟨oa, ca, h1⟩
set_option maxRecDepth 20000 in
set_option maxHeartbeats 4000000 in
theorem smallest_any (B U g n k : Nat) (M : MxL) (w : World) (h : IsMat w B U g n M) (hn : n ≤ 6) (hk : k < n) (hex : ∃ a b, Part k n a ∧ Part k n b ∧ M a b ≠ []) :
    Calls Try.prog 63 #[.slice (some ⟨g, 0, none⟩) n n, .int .i64 k] w fun e w' => ∃ x y : Nat, e = .returned (.tuple #[.int .i64 x, .int .i64 y]) ∧ Small n k M x y ∧ Below w.heap.size w w' := by
  obtain ⟨b, c, R, hM⟩ := h
  have hexH := Lib.hid hex
  clear hex
  have hnI : (n : Int) ≤ 6 := by omega
  go_enter Try.func63, Try.ntmps63
  go_wp2_with fail
  go_loopw [6, 7, 8] (fun vx vy vi wr => ∃ (x y : Int) (rr : Nat), vx = .int .i64 x ∧ vy = .int .i64 y ∧ vi = .int .i64 (rr : Int) ∧ k ≤ rr ∧ rr ≤ n ∧ Hid (Scan n k M rr k x y) ∧ MatB wr B U g n b c R M ∧ Below w.heap.size w wr) (fun _ _ vi _ => n - (intOf vi).toNat)
  case atStart => exact ⟨-1, -1, k, rfl, rfl, rfl, Nat.le_refl _, by omega, Lib.hid (Scan.start n k M), hM, Below.refl _ _⟩
  case round =>
    clear hM
    obtain ⟨x, y, rr, rfl, rfl, rfl, hr0, hrn', hS, hM, hb⟩ := hrel
    rename World => w0
    by_cases hrn : rr < n
    · go_wp2_with fail
      go_loopw [6, 7, 9] (fun vx vy vj wr => ∃ (x y : Int) (qq : Nat), vx = .int .i64 x ∧ vy = .int .i64 y ∧ vj = .int .i64 (qq : Int) ∧ k ≤ qq ∧ qq ≤ n ∧ Hid (Scan n k M rr qq x y) ∧ MatB wr B U g n b c R M ∧ Below w.heap.size w wr) (fun _ _ vj _ => n - (intOf vj).toNat)
      case atStart => exact ⟨x, y, k, rfl, rfl, rfl, Nat.le_refl _, by omega, hS, hM, hb⟩
      case round =>
        clear hM hb hS
        obtain ⟨x, y, qq, rfl, rfl, rfl, hq0, hqn', hS, hM, hb⟩ := hrel
        by_cases hqn : qq < n
        · obtain ⟨oR, cR, hRe⟩ := (hM.row rr qq hrn hqn).form
          obtain ⟨L, hL⟩ : ∃ L, (M rr qq).length = L := ⟨_, rfl⟩
          rw [hL] at hRe
          have hLH := Lib.hid hL
          clear hL
          have hpr : Part k n rr := ⟨hr0, hrn⟩
          have hpq : Part k n qq := ⟨hq0, hqn⟩
          by_cases hz : L = 0
          · have hzM : M rr qq = [] := List.length_eq_zero_iff.1 (hLH.out.trans hz)
            have hS2 := Lib.hid (hS.out.skip hzM)
            have hq0 : cmpB .gtr (L : Int) 0 = false := by subst hz; rfl
            clear hzM hS hLH hz
            go_upto_region 8 with (fail)
            have hM0 := hM
            refine gen_guard (w := _) (by kernel_rfl) (by kernel_rfl) (by kernel_rfl)
                (fun i => ([fun zv _ => zv = .slice (some ⟨g, 0, none⟩) n n, fun zv _ => zv = .int .i64 ((rr : Nat) : Int), fun zv _ => zv = .pointer (some ⟨g, rr, none⟩), fun zv _ => zv = .slice (some ⟨b (rr), 0, none⟩) n (c (rr)), fun zv _ => zv = .int .i64 ((qq : Nat) : Int), fun zv _ => zv = .pointer (some ⟨b (rr), qq, none⟩), fun zv _ => zv = (R (rr) (qq)), fun zv _ => zv = .int .i64 ((L : Nat) : Int), fun zv _ => zv = .bool false, fun zv _ => zv = .bool false, fun zv _ => zv = undef, fun zv _ => zv = undef, fun zv _ => zv = undef, fun zv _ => zv = undef, fun zv _ => zv = undef, fun zv _ => zv = undef, fun zv _ => zv = undef, fun zv _ => zv = undef, fun zv _ => zv = undef, fun zv _ => zv = undef, fun zv _ => zv = undef, fun zv _ => zv = undef, fun zv _ => zv = undef, fun zv _ => zv = undef, fun zv _ => zv = undef, fun zv _ => zv = undef, fun zv _ => zv = undef, fun zv _ => zv = undef, fun zv _ => zv = undef, fun zv _ => zv = undef, fun zv _ => zv = undef, fun zv _ => zv = .bool false] : List (Value → World → Prop)).getD i (fun _ _ => True))
                (fun w' => True) trivial (fun w1 w2 h hb => trivial) ?_ ?_ ?_
            · intro i v w1 w2 h hb
              rcases i with _|_|_|_|_|_|_|_|_|_|_|_|_|_|_|_|_|_|_|_|_|_|_|_|_|_|_|_|_|_|_|_|i
              · exact h
              · exact h
              · exact h
              · exact h
              · exact h
              · exact h
              · exact h
              · exact h
              · exact h
              · exact h
              · exact h
              · exact h
              · exact h
              · exact h
              · exact h
              · exact h
              · exact h
              · exact h
              · exact h
              · exact h
              · exact h
              · exact h
              · exact h
              · exact h
              · exact h
              · exact h
              · exact h
              · exact h
              · exact h
              · exact h
              · exact h
              · exact h
              · exact h
            · intro i o ho a w2 hBl hSx hrd hpar
              rcases i with _|_|_|_|_|_|_|_|_|_|_|_|_|_|_|_|_|_|_|_|_|_|_|_|_|_|_|_|_|_|_|_|i
              · obtain rfl := Option.some.inj ho
                refine .inl ⟨rfl, ?_⟩
                have e0 : a.eval (.tmp 0) = .slice (some ⟨g, 0, none⟩) n n := hpar 0 _ (by kernel_rfl) (by kernel_rfl)
                exact wpv_of (wp_move _ _ rfl e0) (fun _ _ => rfl)
              · obtain rfl := Option.some.inj ho
                refine .inl ⟨rfl, ?_⟩
                have e8 : a.eval (.tmp 8) = .int .i64 ((rr : Nat) : Int) := hpar 8 _ (by kernel_rfl) (by kernel_rfl)
                exact wpv_of (wp_move _ _ rfl e8) (fun _ _ => rfl)
              · obtain rfl := Option.some.inj ho
                refine .inl ⟨rfl, ?_⟩
                have e24 : a.eval (.tmp 24) = .slice (some ⟨g, 0, none⟩) n n := hrd 0 _ 24 rfl rfl (by kernel_rfl) (by kernel_rfl)
                have e25 : a.eval (.tmp 25) = .int .i64 ((rr : Nat) : Int) := hrd 1 _ 25 rfl rfl (by kernel_rfl) (by kernel_rfl)
                exact wpv_of (wp_index_row1 77 49 _ _ rfl uMatT sLinT g n n (rr) .i64 e24 e25 hrn) (fun _ _ => rfl)
              · obtain rfl := Option.some.inj ho
                refine .inl ⟨rfl, ?_⟩
                have e26 : a.eval (.tmp 26) = .pointer (some ⟨g, rr, none⟩) := hrd 2 _ 26 rfl rfl (by kernel_rfl) (by kernel_rfl)
                exact wpv_of (wp_load_slice 49 55 _ rfl _ e26 uLinT _ ((hM.below hBl).cell1 hrn)) (fun _ _ => rfl)
              · obtain rfl := Option.some.inj ho
                refine .inl ⟨rfl, ?_⟩
                have e9 : a.eval (.tmp 9) = .int .i64 ((qq : Nat) : Int) := hpar 9 _ (by kernel_rfl) (by kernel_rfl)
                exact wpv_of (wp_move _ _ rfl e9) (fun _ _ => rfl)
              · obtain rfl := Option.some.inj ho
                refine .inl ⟨rfl, ?_⟩
                have e27 : a.eval (.tmp 27) = .slice (some ⟨b (rr), 0, none⟩) n (c (rr)) := hrd 3 _ 27 rfl rfl (by kernel_rfl) (by kernel_rfl)
                have e28 : a.eval (.tmp 28) = .int .i64 ((qq : Nat) : Int) := hrd 4 _ 28 rfl rfl (by kernel_rfl) (by kernel_rfl)
                exact wpv_of (wp_index_row1 49 55 _ _ rfl uLinT sEntT (b (rr)) n (c (rr)) (qq) .i64 e27 e28 hqn) (fun _ _ => rfl)
              · obtain rfl := Option.some.inj ho
                refine .inl ⟨rfl, ?_⟩
                have e29 : a.eval (.tmp 29) = .pointer (some ⟨b (rr), qq, none⟩) := hrd 5 _ 29 rfl rfl (by kernel_rfl) (by kernel_rfl)
                exact wpv_of (wp_load_slice 55 2 _ rfl _ e29 uEntT _ ((hM.below hBl).cell2 hrn hqn)) (fun _ _ => rfl)
              · obtain rfl := Option.some.inj ho
                refine .inl ⟨rfl, ?_⟩
                have e30 : a.eval (.tmp 30) = (R (rr) (qq)) := hrd 6 _ 30 rfl rfl (by kernel_rfl) (by kernel_rfl)
                exact wpv_of (wp_len _ 55 2 uEntT rfl oR (L) cR (e30.trans hRe)) (fun _ _ => rfl)
              · obtain rfl := Option.some.inj ho
                refine .inl ⟨rfl, ?_⟩
                have e31 : a.eval (.tmp 31) = .int .i64 ((L : Nat) : Int) := hrd 7 _ 31 rfl rfl (by kernel_rfl) (by kernel_rfl)
                exact wpv_of (wp_cmp .gtr _ _ _ _ rfl rfl .i64 _ _ e31 rfl _ hq0) (fun _ _ => rfl)
              · obtain rfl := Option.some.inj ho
                refine .inl ⟨rfl, ?_⟩
                have e32 : a.eval (.tmp 32) = .bool false := hrd 8 _ 32 rfl rfl (by kernel_rfl) (by kernel_rfl)
                exact wpv_of (wp_move _ _ rfl e32) (fun _ _ => rfl)
              · obtain rfl := Option.some.inj ho
                exact .inr (.inr ⟨9, true, _, 33, rfl, rfl, rfl, (by kernel_rfl), (by kernel_rfl), fun v w' h => .inl h, fun _ => rfl⟩)
              · obtain rfl := Option.some.inj ho
                exact .inr (.inr ⟨9, true, _, 33, rfl, rfl, rfl, (by kernel_rfl), (by kernel_rfl), fun v w' h => .inl h, fun _ => rfl⟩)
              · obtain rfl := Option.some.inj ho
                exact .inr (.inr ⟨9, true, _, 33, rfl, rfl, rfl, (by kernel_rfl), (by kernel_rfl), fun v w' h => .inl h, fun _ => rfl⟩)
              · obtain rfl := Option.some.inj ho
                exact .inr (.inr ⟨12, false, _, 36, rfl, rfl, rfl, (by kernel_rfl), (by kernel_rfl), fun v w' h => .inr h, fun _ => rfl⟩)
              · obtain rfl := Option.some.inj ho
                exact .inr (.inr ⟨12, false, _, 36, rfl, rfl, rfl, (by kernel_rfl), (by kernel_rfl), fun v w' h => .inr h, fun _ => rfl⟩)
              · obtain rfl := Option.some.inj ho
                exact .inr (.inr ⟨12, false, _, 36, rfl, rfl, rfl, (by kernel_rfl), (by kernel_rfl), fun v w' h => .inr h, fun _ => rfl⟩)
              · obtain rfl := Option.some.inj ho
                exact .inr (.inr ⟨12, false, _, 36, rfl, rfl, rfl, (by kernel_rfl), (by kernel_rfl), fun v w' h => .inr h, fun _ => rfl⟩)
              · obtain rfl := Option.some.inj ho
                exact .inr (.inr ⟨12, false, _, 36, rfl, rfl, rfl, (by kernel_rfl), (by kernel_rfl), fun v w' h => .inr h, fun _ => rfl⟩)
              · obtain rfl := Option.some.inj ho
                exact .inr (.inr ⟨12, false, _, 36, rfl, rfl, rfl, (by kernel_rfl), (by kernel_rfl), fun v w' h => .inr h, fun _ => rfl⟩)
              · obtain rfl := Option.some.inj ho
                exact .inr (.inr ⟨12, false, _, 36, rfl, rfl, rfl, (by kernel_rfl), (by kernel_rfl), fun v w' h => .inr h, fun _ => rfl⟩)
              · obtain rfl := Option.some.inj ho
                exact .inr (.inr ⟨12, false, _, 36, rfl, rfl, rfl, (by kernel_rfl), (by kernel_rfl), fun v w' h => .inr h, fun _ => rfl⟩)
              · obtain rfl := Option.some.inj ho
                exact .inr (.inr ⟨12, false, _, 36, rfl, rfl, rfl, (by kernel_rfl), (by kernel_rfl), fun v w' h => .inr h, fun _ => rfl⟩)
              · obtain rfl := Option.some.inj ho
                exact .inr (.inr ⟨12, false, _, 36, rfl, rfl, rfl, (by kernel_rfl), (by kernel_rfl), fun v w' h => .inr h, fun _ => rfl⟩)
              · obtain rfl := Option.some.inj ho
                exact .inr (.inr ⟨12, false, _, 36, rfl, rfl, rfl, (by kernel_rfl), (by kernel_rfl), fun v w' h => .inr h, fun _ => rfl⟩)
              · obtain rfl := Option.some.inj ho
                exact .inr (.inr ⟨12, false, _, 36, rfl, rfl, rfl, (by kernel_rfl), (by kernel_rfl), fun v w' h => .inr h, fun _ => rfl⟩)
              · obtain rfl := Option.some.inj ho
                exact .inr (.inr ⟨12, false, _, 36, rfl, rfl, rfl, (by kernel_rfl), (by kernel_rfl), fun v w' h => .inr h, fun _ => rfl⟩)
              · obtain rfl := Option.some.inj ho
                exact .inr (.inr ⟨12, false, _, 36, rfl, rfl, rfl, (by kernel_rfl), (by kernel_rfl), fun v w' h => .inr h, fun _ => rfl⟩)
              · obtain rfl := Option.some.inj ho
                exact .inr (.inr ⟨12, false, _, 36, rfl, rfl, rfl, (by kernel_rfl), (by kernel_rfl), fun v w' h => .inr h, fun _ => rfl⟩)
              · obtain rfl := Option.some.inj ho
                exact .inr (.inr ⟨12, false, _, 36, rfl, rfl, rfl, (by kernel_rfl), (by kernel_rfl), fun v w' h => .inr h, fun _ => rfl⟩)
              · obtain rfl := Option.some.inj ho
                exact .inr (.inr ⟨12, false, _, 36, rfl, rfl, rfl, (by kernel_rfl), (by kernel_rfl), fun v w' h => .inr h, fun _ => rfl⟩)
              · obtain rfl := Option.some.inj ho
                exact .inr (.inr ⟨9, true, _, 33, rfl, rfl, rfl, (by kernel_rfl), (by kernel_rfl), fun v w' h => .inl h, fun _ => rfl⟩)
              · obtain rfl := Option.some.inj ho
                refine .inl ⟨rfl, ?_⟩
                have e33 : a.eval (.tmp 33) = .bool false := hrd 9 _ 33 rfl rfl (by kernel_rfl) (by kernel_rfl)
                exact wpv_of (wp_pickF _ _ _ rfl e33 (.bool false) rfl) (fun _ _ => rfl)
              · simp at ho
            intro vals xA hBx hSx hc0
            have e0 : vals 0 = .slice (some ⟨g, 0, none⟩) n n := hc0 0 (by simp)
            have e1 : vals 1 = .int .i64 ((rr : Nat) : Int) := hc0 1 (by simp)
            have e2 : vals 2 = .pointer (some ⟨g, rr, none⟩) := hc0 2 (by simp)
            have e3 : vals 3 = .slice (some ⟨b (rr), 0, none⟩) n (c (rr)) := hc0 3 (by simp)
            have e4 : vals 4 = .int .i64 ((qq : Nat) : Int) := hc0 4 (by simp)
            have e5 : vals 5 = .pointer (some ⟨b (rr), qq, none⟩) := hc0 5 (by simp)
            have e6 : vals 6 = (R (rr) (qq)) := hc0 6 (by simp)
            have e7 : vals 7 = .int .i64 ((L : Nat) : Int) := hc0 7 (by simp)
            have e8 : vals 8 = .bool false := hc0 8 (by simp)
            have e9 : vals 9 = .bool false := hc0 9 (by simp)
            have e10 : vals 10 = undef := hc0 10 (by simp)
            have e11 : vals 11 = undef := hc0 11 (by simp)
            have e12 : vals 12 = undef := hc0 12 (by simp)
            have e13 : vals 13 = undef := hc0 13 (by simp)
            have e14 : vals 14 = undef := hc0 14 (by simp)
            have e15 : vals 15 = undef := hc0 15 (by simp)
            have e16 : vals 16 = undef := hc0 16 (by simp)
            have e17 : vals 17 = undef := hc0 17 (by simp)
            have e18 : vals 18 = undef := hc0 18 (by simp)
            have e19 : vals 19 = undef := hc0 19 (by simp)
            have e20 : vals 20 = undef := hc0 20 (by simp)
            have e21 : vals 21 = undef := hc0 21 (by simp)
            have e22 : vals 22 = undef := hc0 22 (by simp)
            have e23 : vals 23 = undef := hc0 23 (by simp)
            have e24 : vals 24 = undef := hc0 24 (by simp)
            have e25 : vals 25 = undef := hc0 25 (by simp)
            have e26 : vals 26 = undef := hc0 26 (by simp)
            have e27 : vals 27 = undef := hc0 27 (by simp)
            have e28 : vals 28 = undef := hc0 28 (by simp)
            have e29 : vals 29 = undef := hc0 29 (by simp)
            have e30 : vals 30 = undef := hc0 30 (by simp)
            have e31 : vals 31 = .bool false := hc0 31 (by simp)
            simp only [List.length_cons, List.length_nil, Nat.zero_add, Nat.reduceAdd, List.replicate, putAll, if_true, Act.put, List.setIfInBounds_toArray, List.set_cons_zero, List.set_cons_succ, e0, e1, e2, e3, e4, e5, e6, e7, e8, e9, e10, e11, e12, e13, e14, e15, e16, e17, e18, e19, e20, e21, e22, e23, e24, e25, e26, e27, e28, e29, e30, e31]
            replace hb := below_step hb hBx
            replace hM := hM.below hBx
            clear hM0
            clear hc0 hSx e0 e1 e2 e3 e4 e5 e6 e7 e8 e9 e10 e11 e12 e13 e14 e15 e16 e17 e18 e19 e20 e21 e22 e23 e24 e25 e26 e27 e28 e29 e30 e31
            go_wp2_with fail
            go_roundw
            case rel => exact ⟨x, y, qq + 1, rfl, rfl, by go_num, by omega, by omega, hS2, hM, hb⟩
            case measure => simp [intOf] <;> omega
          · have hneM : M rr qq ≠ [] := fun e => hz (by rw [← hLH.out, e]; rfl)
            have hq0 : cmpB .gtr (L : Int) 0 = true := by simp [cmpB]; omega
            rcases hS.out.at with ⟨rfl, rfl⟩ | ⟨X, Y, rfl, rfl, hXn, hYn⟩
            · have hS2 := Lib.hid (hS.out.first hpr hpq hneM)
              have hq1 : cmpB .lss (-1 : Int) 0 = true := rfl
              clear hneM hS hLH hz
              go_upto_region 8 with (fail)
              have hM0 := hM
              refine gen_guard (w := _) (by kernel_rfl) (by kernel_rfl) (by kernel_rfl)
                  (fun i => ([fun zv _ => zv = .slice (some ⟨g, 0, none⟩) n n, fun zv _ => zv = .int .i64 ((rr : Nat) : Int), fun zv _ => zv = .pointer (some ⟨g, rr, none⟩), fun zv _ => zv = .slice (some ⟨b (rr), 0, none⟩) n (c (rr)), fun zv _ => zv = .int .i64 ((qq : Nat) : Int), fun zv _ => zv = .pointer (some ⟨b (rr), qq, none⟩), fun zv _ => zv = (R (rr) (qq)), fun zv _ => zv = .int .i64 ((L : Nat) : Int), fun zv _ => zv = .bool true, fun zv _ => zv = .bool true, fun zv _ => zv = .int .i64 (-1), fun zv _ => zv = .bool true, fun zv _ => zv = .bool true, fun zv _ => zv = undef, fun zv _ => zv = undef, fun zv _ => zv = undef, fun zv _ => zv = undef, fun zv _ => zv = undef, fun zv _ => zv = undef, fun zv _ => zv = undef, fun zv _ => zv = undef, fun zv _ => zv = undef, fun zv _ => zv = undef, fun zv _ => zv = undef, fun zv _ => zv = undef, fun zv _ => zv = undef, fun zv _ => zv = undef, fun zv _ => zv = undef, fun zv _ => zv = undef, fun zv _ => zv = undef, fun zv _ => zv = .bool true, fun zv _ => zv = .bool true] : List (Value → World → Prop)).getD i (fun _ _ => True))
                  (fun w' => True) trivial (fun w1 w2 h hb => trivial) ?_ ?_ ?_
              · intro i v w1 w2 h hb
                rcases i with _|_|_|_|_|_|_|_|_|_|_|_|_|_|_|_|_|_|_|_|_|_|_|_|_|_|_|_|_|_|_|_|i
                · exact h
                · exact h
                · exact h
                · exact h
                · exact h
                · exact h
                · exact h
                · exact h
                · exact h
                · exact h
                · exact h
                · exact h
                · exact h
                · exact h
                · exact h
                · exact h
                · exact h
                · exact h
                · exact h
                · exact h
                · exact h
                · exact h
                · exact h
                · exact h
                · exact h
                · exact h
                · exact h
                · exact h
                · exact h
                · exact h
                · exact h
                · exact h
                · exact h
              · intro i o ho a w2 hBl hSx hrd hpar
                rcases i with _|_|_|_|_|_|_|_|_|_|_|_|_|_|_|_|_|_|_|_|_|_|_|_|_|_|_|_|_|_|_|_|i
                · obtain rfl := Option.some.inj ho
                  refine .inl ⟨rfl, ?_⟩
                  have e0 : a.eval (.tmp 0) = .slice (some ⟨g, 0, none⟩) n n := hpar 0 _ (by kernel_rfl) (by kernel_rfl)
                  exact wpv_of (wp_move _ _ rfl e0) (fun _ _ => rfl)
                · obtain rfl := Option.some.inj ho
                  refine .inl ⟨rfl, ?_⟩
                  have e8 : a.eval (.tmp 8) = .int .i64 ((rr : Nat) : Int) := hpar 8 _ (by kernel_rfl) (by kernel_rfl)
                  exact wpv_of (wp_move _ _ rfl e8) (fun _ _ => rfl)
                · obtain rfl := Option.some.inj ho
                  refine .inl ⟨rfl, ?_⟩
                  have e24 : a.eval (.tmp 24) = .slice (some ⟨g, 0, none⟩) n n := hrd 0 _ 24 rfl rfl (by kernel_rfl) (by kernel_rfl)
                  have e25 : a.eval (.tmp 25) = .int .i64 ((rr : Nat) : Int) := hrd 1 _ 25 rfl rfl (by kernel_rfl) (by kernel_rfl)
                  exact wpv_of (wp_index_row1 77 49 _ _ rfl uMatT sLinT g n n (rr) .i64 e24 e25 hrn) (fun _ _ => rfl)
                · obtain rfl := Option.some.inj ho
                  refine .inl ⟨rfl, ?_⟩
                  have e26 : a.eval (.tmp 26) = .pointer (some ⟨g, rr, none⟩) := hrd 2 _ 26 rfl rfl (by kernel_rfl) (by kernel_rfl)
                  exact wpv_of (wp_load_slice 49 55 _ rfl _ e26 uLinT _ ((hM.below hBl).cell1 hrn)) (fun _ _ => rfl)
                · obtain rfl := Option.some.inj ho
                  refine .inl ⟨rfl, ?_⟩
                  have e9 : a.eval (.tmp 9) = .int .i64 ((qq : Nat) : Int) := hpar 9 _ (by kernel_rfl) (by kernel_rfl)
                  exact wpv_of (wp_move _ _ rfl e9) (fun _ _ => rfl)
                · obtain rfl := Option.some.inj ho
                  refine .inl ⟨rfl, ?_⟩
                  have e27 : a.eval (.tmp 27) = .slice (some ⟨b (rr), 0, none⟩) n (c (rr)) := hrd 3 _ 27 rfl rfl (by kernel_rfl) (by kernel_rfl)
                  have e28 : a.eval (.tmp 28) = .int .i64 ((qq : Nat) : Int) := hrd 4 _ 28 rfl rfl (by kernel_rfl) (by kernel_rfl)
                  exact wpv_of (wp_index_row1 49 55 _ _ rfl uLinT sEntT (b (rr)) n (c (rr)) (qq) .i64 e27 e28 hqn) (fun _ _ => rfl)
                · obtain rfl := Option.some.inj ho
                  refine .inl ⟨rfl, ?_⟩
                  have e29 : a.eval (.tmp 29) = .pointer (some ⟨b (rr), qq, none⟩) := hrd 5 _ 29 rfl rfl (by kernel_rfl) (by kernel_rfl)
                  exact wpv_of (wp_load_slice 55 2 _ rfl _ e29 uEntT _ ((hM.below hBl).cell2 hrn hqn)) (fun _ _ => rfl)
                · obtain rfl := Option.some.inj ho
                  refine .inl ⟨rfl, ?_⟩
                  have e30 : a.eval (.tmp 30) = (R (rr) (qq)) := hrd 6 _ 30 rfl rfl (by kernel_rfl) (by kernel_rfl)
                  exact wpv_of (wp_len _ 55 2 uEntT rfl oR (L) cR (e30.trans hRe)) (fun _ _ => rfl)
                · obtain rfl := Option.some.inj ho
                  refine .inl ⟨rfl, ?_⟩
                  have e31 : a.eval (.tmp 31) = .int .i64 ((L : Nat) : Int) := hrd 7 _ 31 rfl rfl (by kernel_rfl) (by kernel_rfl)
                  exact wpv_of (wp_cmp .gtr _ _ _ _ rfl rfl .i64 _ _ e31 rfl _ hq0) (fun _ _ => rfl)
                · obtain rfl := Option.some.inj ho
                  refine .inl ⟨rfl, ?_⟩
                  have e32 : a.eval (.tmp 32) = .bool true := hrd 8 _ 32 rfl rfl (by kernel_rfl) (by kernel_rfl)
                  exact wpv_of (wp_move _ _ rfl e32) (fun _ _ => rfl)
                · obtain rfl := Option.some.inj ho
                  refine .inr (.inl ⟨9, true, _, 33, rfl, rfl, rfl, (by kernel_rfl), (by kernel_rfl), fun v w' h => h, ?_⟩)
                  have e6 : a.eval (.tmp 6) = .int .i64 (-1) := hpar 6 _ (by kernel_rfl) (by kernel_rfl)
                  exact wpv_of (wp_move _ _ rfl e6) (fun _ _ => rfl)
                · obtain rfl := Option.some.inj ho
                  refine .inr (.inl ⟨9, true, _, 33, rfl, rfl, rfl, (by kernel_rfl), (by kernel_rfl), fun v w' h => h, ?_⟩)
                  have e34 : a.eval (.tmp 34) = .int .i64 (-1) := hrd 10 _ 34 rfl rfl (by kernel_rfl) (by kernel_rfl)
                  exact wpv_of (wp_cmp .lss _ _ _ _ rfl rfl .i64 _ _ e34 rfl _ hq1) (fun _ _ => rfl)
                · obtain rfl := Option.some.inj ho
                  refine .inr (.inl ⟨9, true, _, 33, rfl, rfl, rfl, (by kernel_rfl), (by kernel_rfl), fun v w' h => h, ?_⟩)
                  have e35 : a.eval (.tmp 35) = .bool true := hrd 11 _ 35 rfl rfl (by kernel_rfl) (by kernel_rfl)
                  exact wpv_of (wp_move _ _ rfl e35) (fun _ _ => rfl)
                · obtain rfl := Option.some.inj ho
                  exact .inr (.inr ⟨12, false, _, 36, rfl, rfl, rfl, (by kernel_rfl), (by kernel_rfl), fun v w' h => .inl h, fun _ => rfl⟩)
                · obtain rfl := Option.some.inj ho
                  exact .inr (.inr ⟨12, false, _, 36, rfl, rfl, rfl, (by kernel_rfl), (by kernel_rfl), fun v w' h => .inl h, fun _ => rfl⟩)
                · obtain rfl := Option.some.inj ho
                  exact .inr (.inr ⟨12, false, _, 36, rfl, rfl, rfl, (by kernel_rfl), (by kernel_rfl), fun v w' h => .inl h, fun _ => rfl⟩)
                · obtain rfl := Option.some.inj ho
                  exact .inr (.inr ⟨12, false, _, 36, rfl, rfl, rfl, (by kernel_rfl), (by kernel_rfl), fun v w' h => .inl h, fun _ => rfl⟩)
                · obtain rfl := Option.some.inj ho
                  exact .inr (.inr ⟨12, false, _, 36, rfl, rfl, rfl, (by kernel_rfl), (by kernel_rfl), fun v w' h => .inl h, fun _ => rfl⟩)
                · obtain rfl := Option.some.inj ho
                  exact .inr (.inr ⟨12, false, _, 36, rfl, rfl, rfl, (by kernel_rfl), (by kernel_rfl), fun v w' h => .inl h, fun _ => rfl⟩)
                · obtain rfl := Option.some.inj ho
                  exact .inr (.inr ⟨12, false, _, 36, rfl, rfl, rfl, (by kernel_rfl), (by kernel_rfl), fun v w' h => .inl h, fun _ => rfl⟩)
                · obtain rfl := Option.some.inj ho
                  exact .inr (.inr ⟨12, false, _, 36, rfl, rfl, rfl, (by kernel_rfl), (by kernel_rfl), fun v w' h => .inl h, fun _ => rfl⟩)
                · obtain rfl := Option.some.inj ho
                  exact .inr (.inr ⟨12, false, _, 36, rfl, rfl, rfl, (by kernel_rfl), (by kernel_rfl), fun v w' h => .inl h, fun _ => rfl⟩)
                · obtain rfl := Option.some.inj ho
                  exact .inr (.inr ⟨12, false, _, 36, rfl, rfl, rfl, (by kernel_rfl), (by kernel_rfl), fun v w' h => .inl h, fun _ => rfl⟩)
                · obtain rfl := Option.some.inj ho
                  exact .inr (.inr ⟨12, false, _, 36, rfl, rfl, rfl, (by kernel_rfl), (by kernel_rfl), fun v w' h => .inl h, fun _ => rfl⟩)
                · obtain rfl := Option.some.inj ho
                  exact .inr (.inr ⟨12, false, _, 36, rfl, rfl, rfl, (by kernel_rfl), (by kernel_rfl), fun v w' h => .inl h, fun _ => rfl⟩)
                · obtain rfl := Option.some.inj ho
                  exact .inr (.inr ⟨12, false, _, 36, rfl, rfl, rfl, (by kernel_rfl), (by kernel_rfl), fun v w' h => .inl h, fun _ => rfl⟩)
                · obtain rfl := Option.some.inj ho
                  exact .inr (.inr ⟨12, false, _, 36, rfl, rfl, rfl, (by kernel_rfl), (by kernel_rfl), fun v w' h => .inl h, fun _ => rfl⟩)
                · obtain rfl := Option.some.inj ho
                  exact .inr (.inr ⟨12, false, _, 36, rfl, rfl, rfl, (by kernel_rfl), (by kernel_rfl), fun v w' h => .inl h, fun _ => rfl⟩)
                · obtain rfl := Option.some.inj ho
                  exact .inr (.inr ⟨12, false, _, 36, rfl, rfl, rfl, (by kernel_rfl), (by kernel_rfl), fun v w' h => .inl h, fun _ => rfl⟩)
                · obtain rfl := Option.some.inj ho
                  exact .inr (.inr ⟨12, false, _, 36, rfl, rfl, rfl, (by kernel_rfl), (by kernel_rfl), fun v w' h => .inl h, fun _ => rfl⟩)
                · obtain rfl := Option.some.inj ho
                  refine .inr (.inl ⟨9, true, _, 33, rfl, rfl, rfl, (by kernel_rfl), (by kernel_rfl), fun v w' h => h, ?_⟩)
                  have e36 : a.eval (.tmp 36) = .bool true := hrd 12 _ 36 rfl rfl (by kernel_rfl) (by kernel_rfl)
                  exact wpv_of (wp_pickT _ _ _ rfl e36 (.bool true) rfl) (fun _ _ => rfl)
                · obtain rfl := Option.some.inj ho
                  refine .inl ⟨rfl, ?_⟩
                  have e33 : a.eval (.tmp 33) = .bool true := hrd 9 _ 33 rfl rfl (by kernel_rfl) (by kernel_rfl)
                  have e54 : a.eval (.tmp 54) = .bool true := hrd 30 _ 54 rfl rfl (by kernel_rfl) (by kernel_rfl)
                  exact wpv_of (wp_pickT _ _ _ rfl e33 (.bool true) e54) (fun _ _ => rfl)
                · simp at ho
              intro vals xB hBx hSx hc0
              have e0 : vals 0 = .slice (some ⟨g, 0, none⟩) n n := hc0 0 (by simp)
              have e1 : vals 1 = .int .i64 ((rr : Nat) : Int) := hc0 1 (by simp)
              have e2 : vals 2 = .pointer (some ⟨g, rr, none⟩) := hc0 2 (by simp)
              have e3 : vals 3 = .slice (some ⟨b (rr), 0, none⟩) n (c (rr)) := hc0 3 (by simp)
              have e4 : vals 4 = .int .i64 ((qq : Nat) : Int) := hc0 4 (by simp)
              have e5 : vals 5 = .pointer (some ⟨b (rr), qq, none⟩) := hc0 5 (by simp)
              have e6 : vals 6 = (R (rr) (qq)) := hc0 6 (by simp)
              have e7 : vals 7 = .int .i64 ((L : Nat) : Int) := hc0 7 (by simp)
              have e8 : vals 8 = .bool true := hc0 8 (by simp)
              have e9 : vals 9 = .bool true := hc0 9 (by simp)
              have e10 : vals 10 = .int .i64 (-1) := hc0 10 (by simp)
              have e11 : vals 11 = .bool true := hc0 11 (by simp)
              have e12 : vals 12 = .bool true := hc0 12 (by simp)
              have e13 : vals 13 = undef := hc0 13 (by simp)
              have e14 : vals 14 = undef := hc0 14 (by simp)
              have e15 : vals 15 = undef := hc0 15 (by simp)
              have e16 : vals 16 = undef := hc0 16 (by simp)
              have e17 : vals 17 = undef := hc0 17 (by simp)
              have e18 : vals 18 = undef := hc0 18 (by simp)
              have e19 : vals 19 = undef := hc0 19 (by simp)
              have e20 : vals 20 = undef := hc0 20 (by simp)
              have e21 : vals 21 = undef := hc0 21 (by simp)
              have e22 : vals 22 = undef := hc0 22 (by simp)
              have e23 : vals 23 = undef := hc0 23 (by simp)
              have e24 : vals 24 = undef := hc0 24 (by simp)
              have e25 : vals 25 = undef := hc0 25 (by simp)
              have e26 : vals 26 = undef := hc0 26 (by simp)
              have e27 : vals 27 = undef := hc0 27 (by simp)
              have e28 : vals 28 = undef := hc0 28 (by simp)
              have e29 : vals 29 = undef := hc0 29 (by simp)
              have e30 : vals 30 = .bool true := hc0 30 (by simp)
              have e31 : vals 31 = .bool true := hc0 31 (by simp)
              simp only [List.length_cons, List.length_nil, Nat.zero_add, Nat.reduceAdd, List.replicate, putAll, if_true, Act.put, List.setIfInBounds_toArray, List.set_cons_zero, List.set_cons_succ, e0, e1, e2, e3, e4, e5, e6, e7, e8, e9, e10, e11, e12, e13, e14, e15, e16, e17, e18, e19, e20, e21, e22, e23, e24, e25, e26, e27, e28, e29, e30, e31]
              replace hb := below_step hb hBx
              replace hM := hM.below hBx
              clear hM0
              clear hc0 hSx e0 e1 e2 e3 e4 e5 e6 e7 e8 e9 e10 e11 e12 e13 e14 e15 e16 e17 e18 e19 e20 e21 e22 e23 e24 e25 e26 e27 e28 e29 e30 e31
              go_wp2_with fail
              go_roundw
              case rel => exact ⟨rr, qq, qq + 1, rfl, rfl, by go_num, by omega, by omega, hS2, hM, hb⟩
              case measure => simp [intOf] <;> omega
            · obtain ⟨oS, cS, hSe⟩ := (hM.row X Y hXn hYn).form
              obtain ⟨LS, hLS⟩ : ∃ L, (M X Y).length = L := ⟨_, rfl⟩
              rw [hLS] at hSe
              have hq1 : cmpB .lss ((X : Nat) : Int) 0 = false := by simp [cmpB]
              by_cases hlt : L < LS
              · have hS2 := Lib.hid (hS.out.less hpr hpq hneM (by rw [hLS, hLH.out]; exact hlt))
                have hq2 : cmpB .lss (L : Int) (LS : Int) = true := by simp [cmpB]; omega
                clear hneM hS hLH hz hLS hlt
                go_upto_region 8 with (fail)
                have hM0 := hM
                refine gen_guard (w := _) (by kernel_rfl) (by kernel_rfl) (by kernel_rfl)
                    (fun i => ([fun zv _ => zv = .slice (some ⟨g, 0, none⟩) n n, fun zv _ => zv = .int .i64 ((rr : Nat) : Int), fun zv _ => zv = .pointer (some ⟨g, rr, none⟩), fun zv _ => zv = .slice (some ⟨b (rr), 0, none⟩) n (c (rr)), fun zv _ => zv = .int .i64 ((qq : Nat) : Int), fun zv _ => zv = .pointer (some ⟨b (rr), qq, none⟩), fun zv _ => zv = (R (rr) (qq)), fun zv _ => zv = .int .i64 ((L : Nat) : Int), fun zv _ => zv = .bool true, fun zv _ => zv = .bool true, fun zv _ => zv = .int .i64 ((X : Nat) : Int), fun zv _ => zv = .bool false, fun zv _ => zv = .bool false, fun zv _ => zv = .slice (some ⟨g, 0, none⟩) n n, fun zv _ => zv = .int .i64 ((rr : Nat) : Int), fun zv _ => zv = .pointer (some ⟨g, rr, none⟩), fun zv _ => zv = .slice (some ⟨b (rr), 0, none⟩) n (c (rr)), fun zv _ => zv = .int .i64 ((qq : Nat) : Int), fun zv _ => zv = .pointer (some ⟨b (rr), qq, none⟩), fun zv _ => zv = (R (rr) (qq)), fun zv _ => zv = .int .i64 ((L : Nat) : Int), fun zv _ => zv = .slice (some ⟨g, 0, none⟩) n n, fun zv _ => zv = .int .i64 ((X : Nat) : Int), fun zv _ => zv = .pointer (some ⟨g, X, none⟩), fun zv _ => zv = .slice (some ⟨b (X), 0, none⟩) n (c (X)), fun zv _ => zv = .int .i64 ((Y : Nat) : Int), fun zv _ => zv = .pointer (some ⟨b (X), Y, none⟩), fun zv _ => zv = (R (X) (Y)), fun zv _ => zv = .int .i64 ((LS : Nat) : Int), fun zv _ => zv = .bool true, fun zv _ => zv = .bool true, fun zv _ => zv = .bool true] : List (Value → World → Prop)).getD i (fun _ _ => True))
                    (fun w' => True) trivial (fun w1 w2 h hb => trivial) ?_ ?_ ?_
                · intro i v w1 w2 h hb
                  rcases i with _|_|_|_|_|_|_|_|_|_|_|_|_|_|_|_|_|_|_|_|_|_|_|_|_|_|_|_|_|_|_|_|i
                  · exact h
                  · exact h
                  · exact h
                  · exact h
                  · exact h
                  · exact h
                  · exact h
                  · exact h
                  · exact h
                  · exact h
                  · exact h
                  · exact h
                  · exact h
                  · exact h
                  · exact h
                  · exact h
                  · exact h
                  · exact h
                  · exact h
                  · exact h
                  · exact h
                  · exact h
                  · exact h
                  · exact h
                  · exact h
                  · exact h
                  · exact h
                  · exact h
                  · exact h
                  · exact h
                  · exact h
                  · exact h
                  · exact h
                · intro i o ho a w2 hBl hSx hrd hpar
                  rcases i with _|_|_|_|_|_|_|_|_|_|_|_|_|_|_|_|_|_|_|_|_|_|_|_|_|_|_|_|_|_|_|_|i
                  · obtain rfl := Option.some.inj ho
                    refine .inl ⟨rfl, ?_⟩
                    have e0 : a.eval (.tmp 0) = .slice (some ⟨g, 0, none⟩) n n := hpar 0 _ (by kernel_rfl) (by kernel_rfl)
                    exact wpv_of (wp_move _ _ rfl e0) (fun _ _ => rfl)
                  · obtain rfl := Option.some.inj ho
                    refine .inl ⟨rfl, ?_⟩
                    have e8 : a.eval (.tmp 8) = .int .i64 ((rr : Nat) : Int) := hpar 8 _ (by kernel_rfl) (by kernel_rfl)
                    exact wpv_of (wp_move _ _ rfl e8) (fun _ _ => rfl)
                  · obtain rfl := Option.some.inj ho
                    refine .inl ⟨rfl, ?_⟩
                    have e24 : a.eval (.tmp 24) = .slice (some ⟨g, 0, none⟩) n n := hrd 0 _ 24 rfl rfl (by kernel_rfl) (by kernel_rfl)
                    have e25 : a.eval (.tmp 25) = .int .i64 ((rr : Nat) : Int) := hrd 1 _ 25 rfl rfl (by kernel_rfl) (by kernel_rfl)
                    exact wpv_of (wp_index_row1 77 49 _ _ rfl uMatT sLinT g n n (rr) .i64 e24 e25 hrn) (fun _ _ => rfl)
                  · obtain rfl := Option.some.inj ho
                    refine .inl ⟨rfl, ?_⟩
                    have e26 : a.eval (.tmp 26) = .pointer (some ⟨g, rr, none⟩) := hrd 2 _ 26 rfl rfl (by kernel_rfl) (by kernel_rfl)
                    exact wpv_of (wp_load_slice 49 55 _ rfl _ e26 uLinT _ ((hM.below hBl).cell1 hrn)) (fun _ _ => rfl)
                  · obtain rfl := Option.some.inj ho
                    refine .inl ⟨rfl, ?_⟩
                    have e9 : a.eval (.tmp 9) = .int .i64 ((qq : Nat) : Int) := hpar 9 _ (by kernel_rfl) (by kernel_rfl)
                    exact wpv_of (wp_move _ _ rfl e9) (fun _ _ => rfl)
                  · obtain rfl := Option.some.inj ho
                    refine .inl ⟨rfl, ?_⟩
                    have e27 : a.eval (.tmp 27) = .slice (some ⟨b (rr), 0, none⟩) n (c (rr)) := hrd 3 _ 27 rfl rfl (by kernel_rfl) (by kernel_rfl)
                    have e28 : a.eval (.tmp 28) = .int .i64 ((qq : Nat) : Int) := hrd 4 _ 28 rfl rfl (by kernel_rfl) (by kernel_rfl)
                    exact wpv_of (wp_index_row1 49 55 _ _ rfl uLinT sEntT (b (rr)) n (c (rr)) (qq) .i64 e27 e28 hqn) (fun _ _ => rfl)
                  · obtain rfl := Option.some.inj ho
                    refine .inl ⟨rfl, ?_⟩
                    have e29 : a.eval (.tmp 29) = .pointer (some ⟨b (rr), qq, none⟩) := hrd 5 _ 29 rfl rfl (by kernel_rfl) (by kernel_rfl)
                    exact wpv_of (wp_load_slice 55 2 _ rfl _ e29 uEntT _ ((hM.below hBl).cell2 hrn hqn)) (fun _ _ => rfl)
                  · obtain rfl := Option.some.inj ho
                    refine .inl ⟨rfl, ?_⟩
                    have e30 : a.eval (.tmp 30) = (R (rr) (qq)) := hrd 6 _ 30 rfl rfl (by kernel_rfl) (by kernel_rfl)
                    exact wpv_of (wp_len _ 55 2 uEntT rfl oR (L) cR (e30.trans hRe)) (fun _ _ => rfl)
                  · obtain rfl := Option.some.inj ho
                    refine .inl ⟨rfl, ?_⟩
                    have e31 : a.eval (.tmp 31) = .int .i64 ((L : Nat) : Int) := hrd 7 _ 31 rfl rfl (by kernel_rfl) (by kernel_rfl)
                    exact wpv_of (wp_cmp .gtr _ _ _ _ rfl rfl .i64 _ _ e31 rfl _ hq0) (fun _ _ => rfl)
                  · obtain rfl := Option.some.inj ho
                    refine .inl ⟨rfl, ?_⟩
                    have e32 : a.eval (.tmp 32) = .bool true := hrd 8 _ 32 rfl rfl (by kernel_rfl) (by kernel_rfl)
                    exact wpv_of (wp_move _ _ rfl e32) (fun _ _ => rfl)
                  · obtain rfl := Option.some.inj ho
                    refine .inr (.inl ⟨9, true, _, 33, rfl, rfl, rfl, (by kernel_rfl), (by kernel_rfl), fun v w' h => h, ?_⟩)
                    have e6 : a.eval (.tmp 6) = .int .i64 ((X : Nat) : Int) := hpar 6 _ (by kernel_rfl) (by kernel_rfl)
                    exact wpv_of (wp_move _ _ rfl e6) (fun _ _ => rfl)
                  · obtain rfl := Option.some.inj ho
                    refine .inr (.inl ⟨9, true, _, 33, rfl, rfl, rfl, (by kernel_rfl), (by kernel_rfl), fun v w' h => h, ?_⟩)
                    have e34 : a.eval (.tmp 34) = .int .i64 ((X : Nat) : Int) := hrd 10 _ 34 rfl rfl (by kernel_rfl) (by kernel_rfl)
                    exact wpv_of (wp_cmp .lss _ _ _ _ rfl rfl .i64 _ _ e34 rfl _ hq1) (fun _ _ => rfl)
                  · obtain rfl := Option.some.inj ho
                    refine .inr (.inl ⟨9, true, _, 33, rfl, rfl, rfl, (by kernel_rfl), (by kernel_rfl), fun v w' h => h, ?_⟩)
                    have e35 : a.eval (.tmp 35) = .bool false := hrd 11 _ 35 rfl rfl (by kernel_rfl) (by kernel_rfl)
                    exact wpv_of (wp_move _ _ rfl e35) (fun _ _ => rfl)
                  · obtain rfl := Option.some.inj ho
                    refine .inr (.inl ⟨12, false, _, 36, rfl, rfl, rfl, (by kernel_rfl), (by kernel_rfl), fun v w' h => h, ?_⟩)
                    have e0 : a.eval (.tmp 0) = .slice (some ⟨g, 0, none⟩) n n := hpar 0 _ (by kernel_rfl) (by kernel_rfl)
                    exact wpv_of (wp_move _ _ rfl e0) (fun _ _ => rfl)
                  · obtain rfl := Option.some.inj ho
                    refine .inr (.inl ⟨12, false, _, 36, rfl, rfl, rfl, (by kernel_rfl), (by kernel_rfl), fun v w' h => h, ?_⟩)
                    have e8 : a.eval (.tmp 8) = .int .i64 ((rr : Nat) : Int) := hpar 8 _ (by kernel_rfl) (by kernel_rfl)
                    exact wpv_of (wp_move _ _ rfl e8) (fun _ _ => rfl)
                  · obtain rfl := Option.some.inj ho
                    refine .inr (.inl ⟨12, false, _, 36, rfl, rfl, rfl, (by kernel_rfl), (by kernel_rfl), fun v w' h => h, ?_⟩)
                    have e37 : a.eval (.tmp 37) = .slice (some ⟨g, 0, none⟩) n n := hrd 13 _ 37 rfl rfl (by kernel_rfl) (by kernel_rfl)
                    have e38 : a.eval (.tmp 38) = .int .i64 ((rr : Nat) : Int) := hrd 14 _ 38 rfl rfl (by kernel_rfl) (by kernel_rfl)
                    exact wpv_of (wp_index_row1 77 49 _ _ rfl uMatT sLinT g n n (rr) .i64 e37 e38 hrn) (fun _ _ => rfl)
                  · obtain rfl := Option.some.inj ho
                    refine .inr (.inl ⟨12, false, _, 36, rfl, rfl, rfl, (by kernel_rfl), (by kernel_rfl), fun v w' h => h, ?_⟩)
                    have e39 : a.eval (.tmp 39) = .pointer (some ⟨g, rr, none⟩) := hrd 15 _ 39 rfl rfl (by kernel_rfl) (by kernel_rfl)
                    exact wpv_of (wp_load_slice 49 55 _ rfl _ e39 uLinT _ ((hM.below hBl).cell1 hrn)) (fun _ _ => rfl)
                  · obtain rfl := Option.some.inj ho
                    refine .inr (.inl ⟨12, false, _, 36, rfl, rfl, rfl, (by kernel_rfl), (by kernel_rfl), fun v w' h => h, ?_⟩)
                    have e9 : a.eval (.tmp 9) = .int .i64 ((qq : Nat) : Int) := hpar 9 _ (by kernel_rfl) (by kernel_rfl)
                    exact wpv_of (wp_move _ _ rfl e9) (fun _ _ => rfl)
                  · obtain rfl := Option.some.inj ho
                    refine .inr (.inl ⟨12, false, _, 36, rfl, rfl, rfl, (by kernel_rfl), (by kernel_rfl), fun v w' h => h, ?_⟩)
                    have e40 : a.eval (.tmp 40) = .slice (some ⟨b (rr), 0, none⟩) n (c (rr)) := hrd 16 _ 40 rfl rfl (by kernel_rfl) (by kernel_rfl)
                    have e41 : a.eval (.tmp 41) = .int .i64 ((qq : Nat) : Int) := hrd 17 _ 41 rfl rfl (by kernel_rfl) (by kernel_rfl)
                    exact wpv_of (wp_index_row1 49 55 _ _ rfl uLinT sEntT (b (rr)) n (c (rr)) (qq) .i64 e40 e41 hqn) (fun _ _ => rfl)
                  · obtain rfl := Option.some.inj ho
                    refine .inr (.inl ⟨12, false, _, 36, rfl, rfl, rfl, (by kernel_rfl), (by kernel_rfl), fun v w' h => h, ?_⟩)
                    have e42 : a.eval (.tmp 42) = .pointer (some ⟨b (rr), qq, none⟩) := hrd 18 _ 42 rfl rfl (by kernel_rfl) (by kernel_rfl)
                    exact wpv_of (wp_load_slice 55 2 _ rfl _ e42 uEntT _ ((hM.below hBl).cell2 hrn hqn)) (fun _ _ => rfl)
                  · obtain rfl := Option.some.inj ho
                    refine .inr (.inl ⟨12, false, _, 36, rfl, rfl, rfl, (by kernel_rfl), (by kernel_rfl), fun v w' h => h, ?_⟩)
                    have e43 : a.eval (.tmp 43) = (R (rr) (qq)) := hrd 19 _ 43 rfl rfl (by kernel_rfl) (by kernel_rfl)
                    exact wpv_of (wp_len _ 55 2 uEntT rfl oR (L) cR (e43.trans hRe)) (fun _ _ => rfl)
                  · obtain rfl := Option.some.inj ho
                    refine .inr (.inl ⟨12, false, _, 36, rfl, rfl, rfl, (by kernel_rfl), (by kernel_rfl), fun v w' h => h, ?_⟩)
                    have e0 : a.eval (.tmp 0) = .slice (some ⟨g, 0, none⟩) n n := hpar 0 _ (by kernel_rfl) (by kernel_rfl)
                    exact wpv_of (wp_move _ _ rfl e0) (fun _ _ => rfl)
                  · obtain rfl := Option.some.inj ho
                    refine .inr (.inl ⟨12, false, _, 36, rfl, rfl, rfl, (by kernel_rfl), (by kernel_rfl), fun v w' h => h, ?_⟩)
                    have e6 : a.eval (.tmp 6) = .int .i64 ((X : Nat) : Int) := hpar 6 _ (by kernel_rfl) (by kernel_rfl)
                    exact wpv_of (wp_move _ _ rfl e6) (fun _ _ => rfl)
                  · obtain rfl := Option.some.inj ho
                    refine .inr (.inl ⟨12, false, _, 36, rfl, rfl, rfl, (by kernel_rfl), (by kernel_rfl), fun v w' h => h, ?_⟩)
                    have e45 : a.eval (.tmp 45) = .slice (some ⟨g, 0, none⟩) n n := hrd 21 _ 45 rfl rfl (by kernel_rfl) (by kernel_rfl)
                    have e46 : a.eval (.tmp 46) = .int .i64 ((X : Nat) : Int) := hrd 22 _ 46 rfl rfl (by kernel_rfl) (by kernel_rfl)
                    exact wpv_of (wp_index_row1 77 49 _ _ rfl uMatT sLinT g n n (X) .i64 e45 e46 hXn) (fun _ _ => rfl)
                  · obtain rfl := Option.some.inj ho
                    refine .inr (.inl ⟨12, false, _, 36, rfl, rfl, rfl, (by kernel_rfl), (by kernel_rfl), fun v w' h => h, ?_⟩)
                    have e47 : a.eval (.tmp 47) = .pointer (some ⟨g, X, none⟩) := hrd 23 _ 47 rfl rfl (by kernel_rfl) (by kernel_rfl)
                    exact wpv_of (wp_load_slice 49 55 _ rfl _ e47 uLinT _ ((hM.below hBl).cell1 hXn)) (fun _ _ => rfl)
                  · obtain rfl := Option.some.inj ho
                    refine .inr (.inl ⟨12, false, _, 36, rfl, rfl, rfl, (by kernel_rfl), (by kernel_rfl), fun v w' h => h, ?_⟩)
                    have e7 : a.eval (.tmp 7) = .int .i64 ((Y : Nat) : Int) := hpar 7 _ (by kernel_rfl) (by kernel_rfl)
                    exact wpv_of (wp_move _ _ rfl e7) (fun _ _ => rfl)
                  · obtain rfl := Option.some.inj ho
                    refine .inr (.inl ⟨12, false, _, 36, rfl, rfl, rfl, (by kernel_rfl), (by kernel_rfl), fun v w' h => h, ?_⟩)
                    have e48 : a.eval (.tmp 48) = .slice (some ⟨b (X), 0, none⟩) n (c (X)) := hrd 24 _ 48 rfl rfl (by kernel_rfl) (by kernel_rfl)
                    have e49 : a.eval (.tmp 49) = .int .i64 ((Y : Nat) : Int) := hrd 25 _ 49 rfl rfl (by kernel_rfl) (by kernel_rfl)
                    exact wpv_of (wp_index_row1 49 55 _ _ rfl uLinT sEntT (b (X)) n (c (X)) (Y) .i64 e48 e49 hYn) (fun _ _ => rfl)
                  · obtain rfl := Option.some.inj ho
                    refine .inr (.inl ⟨12, false, _, 36, rfl, rfl, rfl, (by kernel_rfl), (by kernel_rfl), fun v w' h => h, ?_⟩)
                    have e50 : a.eval (.tmp 50) = .pointer (some ⟨b (X), Y, none⟩) := hrd 26 _ 50 rfl rfl (by kernel_rfl) (by kernel_rfl)
                    exact wpv_of (wp_load_slice 55 2 _ rfl _ e50 uEntT _ ((hM.below hBl).cell2 hXn hYn)) (fun _ _ => rfl)
                  · obtain rfl := Option.some.inj ho
                    refine .inr (.inl ⟨12, false, _, 36, rfl, rfl, rfl, (by kernel_rfl), (by kernel_rfl), fun v w' h => h, ?_⟩)
                    have e51 : a.eval (.tmp 51) = (R (X) (Y)) := hrd 27 _ 51 rfl rfl (by kernel_rfl) (by kernel_rfl)
                    exact wpv_of (wp_len _ 55 2 uEntT rfl oS (LS) cS (e51.trans hSe)) (fun _ _ => rfl)
                  · obtain rfl := Option.some.inj ho
                    refine .inr (.inl ⟨12, false, _, 36, rfl, rfl, rfl, (by kernel_rfl), (by kernel_rfl), fun v w' h => h, ?_⟩)
                    have e44 : a.eval (.tmp 44) = .int .i64 ((L : Nat) : Int) := hrd 20 _ 44 rfl rfl (by kernel_rfl) (by kernel_rfl)
                    have e52 : a.eval (.tmp 52) = .int .i64 ((LS : Nat) : Int) := hrd 28 _ 52 rfl rfl (by kernel_rfl) (by kernel_rfl)
                    exact wpv_of (wp_cmp .lss _ _ _ _ rfl rfl .i64 _ _ e44 e52 _ hq2) (fun _ _ => rfl)
                  · obtain rfl := Option.some.inj ho
                    refine .inr (.inl ⟨9, true, _, 33, rfl, rfl, rfl, (by kernel_rfl), (by kernel_rfl), fun v w' h => h, ?_⟩)
                    have e36 : a.eval (.tmp 36) = .bool false := hrd 12 _ 36 rfl rfl (by kernel_rfl) (by kernel_rfl)
                    have e53 : a.eval (.tmp 53) = .bool true := hrd 29 _ 53 rfl rfl (by kernel_rfl) (by kernel_rfl)
                    exact wpv_of (wp_pickF _ _ _ rfl e36 (.bool true) e53) (fun _ _ => rfl)
                  · obtain rfl := Option.some.inj ho
                    refine .inl ⟨rfl, ?_⟩
                    have e33 : a.eval (.tmp 33) = .bool true := hrd 9 _ 33 rfl rfl (by kernel_rfl) (by kernel_rfl)
                    have e54 : a.eval (.tmp 54) = .bool true := hrd 30 _ 54 rfl rfl (by kernel_rfl) (by kernel_rfl)
                    exact wpv_of (wp_pickT _ _ _ rfl e33 (.bool true) e54) (fun _ _ => rfl)
                  · simp at ho
                intro vals xC hBx hSx hc0
                have e0 : vals 0 = .slice (some ⟨g, 0, none⟩) n n := hc0 0 (by simp)
                have e1 : vals 1 = .int .i64 ((rr : Nat) : Int) := hc0 1 (by simp)
                have e2 : vals 2 = .pointer (some ⟨g, rr, none⟩) := hc0 2 (by simp)
                have e3 : vals 3 = .slice (some ⟨b (rr), 0, none⟩) n (c (rr)) := hc0 3 (by simp)
                have e4 : vals 4 = .int .i64 ((qq : Nat) : Int) := hc0 4 (by simp)
                have e5 : vals 5 = .pointer (some ⟨b (rr), qq, none⟩) := hc0 5 (by simp)
                have e6 : vals 6 = (R (rr) (qq)) := hc0 6 (by simp)
                have e7 : vals 7 = .int .i64 ((L : Nat) : Int) := hc0 7 (by simp)
                have e8 : vals 8 = .bool true := hc0 8 (by simp)
                have e9 : vals 9 = .bool true := hc0 9 (by simp)
                have e10 : vals 10 = .int .i64 ((X : Nat) : Int) := hc0 10 (by simp)
                have e11 : vals 11 = .bool false := hc0 11 (by simp)
                have e12 : vals 12 = .bool false := hc0 12 (by simp)
                have e13 : vals 13 = .slice (some ⟨g, 0, none⟩) n n := hc0 13 (by simp)
                have e14 : vals 14 = .int .i64 ((rr : Nat) : Int) := hc0 14 (by simp)
                have e15 : vals 15 = .pointer (some ⟨g, rr, none⟩) := hc0 15 (by simp)
                have e16 : vals 16 = .slice (some ⟨b (rr), 0, none⟩) n (c (rr)) := hc0 16 (by simp)
                have e17 : vals 17 = .int .i64 ((qq : Nat) : Int) := hc0 17 (by simp)
                have e18 : vals 18 = .pointer (some ⟨b (rr), qq, none⟩) := hc0 18 (by simp)
                have e19 : vals 19 = (R (rr) (qq)) := hc0 19 (by simp)
                have e20 : vals 20 = .int .i64 ((L : Nat) : Int) := hc0 20 (by simp)
                have e21 : vals 21 = .slice (some ⟨g, 0, none⟩) n n := hc0 21 (by simp)
                have e22 : vals 22 = .int .i64 ((X : Nat) : Int) := hc0 22 (by simp)
                have e23 : vals 23 = .pointer (some ⟨g, X, none⟩) := hc0 23 (by simp)
                have e24 : vals 24 = .slice (some ⟨b (X), 0, none⟩) n (c (X)) := hc0 24 (by simp)
                have e25 : vals 25 = .int .i64 ((Y : Nat) : Int) := hc0 25 (by simp)
                have e26 : vals 26 = .pointer (some ⟨b (X), Y, none⟩) := hc0 26 (by simp)
                have e27 : vals 27 = (R (X) (Y)) := hc0 27 (by simp)
                have e28 : vals 28 = .int .i64 ((LS : Nat) : Int) := hc0 28 (by simp)
                have e29 : vals 29 = .bool true := hc0 29 (by simp)
                have e30 : vals 30 = .bool true := hc0 30 (by simp)
                have e31 : vals 31 = .bool true := hc0 31 (by simp)
                simp only [List.length_cons, List.length_nil, Nat.zero_add, Nat.reduceAdd, List.replicate, putAll, if_true, Act.put, List.setIfInBounds_toArray, List.set_cons_zero, List.set_cons_succ, e0, e1, e2, e3, e4, e5, e6, e7, e8, e9, e10, e11, e12, e13, e14, e15, e16, e17, e18, e19, e20, e21, e22, e23, e24, e25, e26, e27, e28, e29, e30, e31]
                replace hb := below_step hb hBx
                replace hM := hM.below hBx
                clear hM0
                clear hc0 hSx e0 e1 e2 e3 e4 e5 e6 e7 e8 e9 e10 e11 e12 e13 e14 e15 e16 e17 e18 e19 e20 e21 e22 e23 e24 e25 e26 e27 e28 e29 e30 e31
                go_wp2_with fail
                go_roundw
                case rel => exact ⟨rr, qq, qq + 1, rfl, rfl, by go_num, by omega, by omega, hS2, hM, hb⟩
                case measure => simp [intOf] <;> omega
              · have hS2 := Lib.hid (hS.out.keep (by rw [hLS, hLH.out]; omega))
                have hq2 : cmpB .lss (L : Int) (LS : Int) = false := by simp [cmpB]; omega
                clear hneM hS hLH hz hLS hlt
                go_upto_region 8 with (fail)
                have hM0 := hM
                refine gen_guard (w := _) (by kernel_rfl) (by kernel_rfl) (by kernel_rfl)
                    (fun i => ([fun zv _ => zv = .slice (some ⟨g, 0, none⟩) n n, fun zv _ => zv = .int .i64 ((rr : Nat) : Int), fun zv _ => zv = .pointer (some ⟨g, rr, none⟩), fun zv _ => zv = .slice (some ⟨b (rr), 0, none⟩) n (c (rr)), fun zv _ => zv = .int .i64 ((qq : Nat) : Int), fun zv _ => zv = .pointer (some ⟨b (rr), qq, none⟩), fun zv _ => zv = (R (rr) (qq)), fun zv _ => zv = .int .i64 ((L : Nat) : Int), fun zv _ => zv = .bool true, fun zv _ => zv = .bool true, fun zv _ => zv = .int .i64 ((X : Nat) : Int), fun zv _ => zv = .bool false, fun zv _ => zv = .bool false, fun zv _ => zv = .slice (some ⟨g, 0, none⟩) n n, fun zv _ => zv = .int .i64 ((rr : Nat) : Int), fun zv _ => zv = .pointer (some ⟨g, rr, none⟩), fun zv _ => zv = .slice (some ⟨b (rr), 0, none⟩) n (c (rr)), fun zv _ => zv = .int .i64 ((qq : Nat) : Int), fun zv _ => zv = .pointer (some ⟨b (rr), qq, none⟩), fun zv _ => zv = (R (rr) (qq)), fun zv _ => zv = .int .i64 ((L : Nat) : Int), fun zv _ => zv = .slice (some ⟨g, 0, none⟩) n n, fun zv _ => zv = .int .i64 ((X : Nat) : Int), fun zv _ => zv = .pointer (some ⟨g, X, none⟩), fun zv _ => zv = .slice (some ⟨b (X), 0, none⟩) n (c (X)), fun zv _ => zv = .int .i64 ((Y : Nat) : Int), fun zv _ => zv = .pointer (some ⟨b (X), Y, none⟩), fun zv _ => zv = (R (X) (Y)), fun zv _ => zv = .int .i64 ((LS : Nat) : Int), fun zv _ => zv = .bool false, fun zv _ => zv = .bool false, fun zv _ => zv = .bool false] : List (Value → World → Prop)).getD i (fun _ _ => True))
                    (fun w' => True) trivial (fun w1 w2 h hb => trivial) ?_ ?_ ?_
                · intro i v w1 w2 h hb
                  rcases i with _|_|_|_|_|_|_|_|_|_|_|_|_|_|_|_|_|_|_|_|_|_|_|_|_|_|_|_|_|_|_|_|i
                  · exact h
                  · exact h
                  · exact h
                  · exact h
                  · exact h
                  · exact h
                  · exact h
                  · exact h
                  · exact h
                  · exact h
                  · exact h
                  · exact h
                  · exact h
                  · exact h
                  · exact h
                  · exact h
                  · exact h
                  · exact h
                  · exact h
                  · exact h
                  · exact h
                  · exact h
                  · exact h
                  · exact h
                  · exact h
                  · exact h
                  · exact h
                  · exact h
                  · exact h
                  · exact h
                  · exact h
                  · exact h
                  · exact h
                · intro i o ho a w2 hBl hSx hrd hpar
                  rcases i with _|_|_|_|_|_|_|_|_|_|_|_|_|_|_|_|_|_|_|_|_|_|_|_|_|_|_|_|_|_|_|_|i
                  · obtain rfl := Option.some.inj ho
                    refine .inl ⟨rfl, ?_⟩
                    have e0 : a.eval (.tmp 0) = .slice (some ⟨g, 0, none⟩) n n := hpar 0 _ (by kernel_rfl) (by kernel_rfl)
                    exact wpv_of (wp_move _ _ rfl e0) (fun _ _ => rfl)
                  · obtain rfl := Option.some.inj ho
                    refine .inl ⟨rfl, ?_⟩
                    have e8 : a.eval (.tmp 8) = .int .i64 ((rr : Nat) : Int) := hpar 8 _ (by kernel_rfl) (by kernel_rfl)
                    exact wpv_of (wp_move _ _ rfl e8) (fun _ _ => rfl)
                  · obtain rfl := Option.some.inj ho
                    refine .inl ⟨rfl, ?_⟩
                    have e24 : a.eval (.tmp 24) = .slice (some ⟨g, 0, none⟩) n n := hrd 0 _ 24 rfl rfl (by kernel_rfl) (by kernel_rfl)
                    have e25 : a.eval (.tmp 25) = .int .i64 ((rr : Nat) : Int) := hrd 1 _ 25 rfl rfl (by kernel_rfl) (by kernel_rfl)
                    exact wpv_of (wp_index_row1 77 49 _ _ rfl uMatT sLinT g n n (rr) .i64 e24 e25 hrn) (fun _ _ => rfl)
                  · obtain rfl := Option.some.inj ho
                    refine .inl ⟨rfl, ?_⟩
                    have e26 : a.eval (.tmp 26) = .pointer (some ⟨g, rr, none⟩) := hrd 2 _ 26 rfl rfl (by kernel_rfl) (by kernel_rfl)
                    exact wpv_of (wp_load_slice 49 55 _ rfl _ e26 uLinT _ ((hM.below hBl).cell1 hrn)) (fun _ _ => rfl)
                  · obtain rfl := Option.some.inj ho
                    refine .inl ⟨rfl, ?_⟩
                    have e9 : a.eval (.tmp 9) = .int .i64 ((qq : Nat) : Int) := hpar 9 _ (by kernel_rfl) (by kernel_rfl)
                    exact wpv_of (wp_move _ _ rfl e9) (fun _ _ => rfl)
                  · obtain rfl := Option.some.inj ho
                    refine .inl ⟨rfl, ?_⟩
                    have e27 : a.eval (.tmp 27) = .slice (some ⟨b (rr), 0, none⟩) n (c (rr)) := hrd 3 _ 27 rfl rfl (by kernel_rfl) (by kernel_rfl)
                    have e28 : a.eval (.tmp 28) = .int .i64 ((qq : Nat) : Int) := hrd 4 _ 28 rfl rfl (by kernel_rfl) (by kernel_rfl)
                    exact wpv_of (wp_index_row1 49 55 _ _ rfl uLinT sEntT (b (rr)) n (c (rr)) (qq) .i64 e27 e28 hqn) (fun _ _ => rfl)
                  · obtain rfl := Option.some.inj ho
                    refine .inl ⟨rfl, ?_⟩
                    have e29 : a.eval (.tmp 29) = .pointer (some ⟨b (rr), qq, none⟩) := hrd 5 _ 29 rfl rfl (by kernel_rfl) (by kernel_rfl)
                    exact wpv_of (wp_load_slice 55 2 _ rfl _ e29 uEntT _ ((hM.below hBl).cell2 hrn hqn)) (fun _ _ => rfl)
                  · obtain rfl := Option.some.inj ho
                    refine .inl ⟨rfl, ?_⟩
                    have e30 : a.eval (.tmp 30) = (R (rr) (qq)) := hrd 6 _ 30 rfl rfl (by kernel_rfl) (by kernel_rfl)
                    exact wpv_of (wp_len _ 55 2 uEntT rfl oR (L) cR (e30.trans hRe)) (fun _ _ => rfl)
                  · obtain rfl := Option.some.inj ho
                    refine .inl ⟨rfl, ?_⟩
                    have e31 : a.eval (.tmp 31) = .int .i64 ((L : Nat) : Int) := hrd 7 _ 31 rfl rfl (by kernel_rfl) (by kernel_rfl)
                    exact wpv_of (wp_cmp .gtr _ _ _ _ rfl rfl .i64 _ _ e31 rfl _ hq0) (fun _ _ => rfl)
                  · obtain rfl := Option.some.inj ho
                    refine .inl ⟨rfl, ?_⟩
                    have e32 : a.eval (.tmp 32) = .bool true := hrd 8 _ 32 rfl rfl (by kernel_rfl) (by kernel_rfl)
                    exact wpv_of (wp_move _ _ rfl e32) (fun _ _ => rfl)
                  · obtain rfl := Option.some.inj ho
                    refine .inr (.inl ⟨9, true, _, 33, rfl, rfl, rfl, (by kernel_rfl), (by kernel_rfl), fun v w' h => h, ?_⟩)
                    have e6 : a.eval (.tmp 6) = .int .i64 ((X : Nat) : Int) := hpar 6 _ (by kernel_rfl) (by kernel_rfl)
                    exact wpv_of (wp_move _ _ rfl e6) (fun _ _ => rfl)
                  · obtain rfl := Option.some.inj ho
                    refine .inr (.inl ⟨9, true, _, 33, rfl, rfl, rfl, (by kernel_rfl), (by kernel_rfl), fun v w' h => h, ?_⟩)
                    have e34 : a.eval (.tmp 34) = .int .i64 ((X : Nat) : Int) := hrd 10 _ 34 rfl rfl (by kernel_rfl) (by kernel_rfl)
                    exact wpv_of (wp_cmp .lss _ _ _ _ rfl rfl .i64 _ _ e34 rfl _ hq1) (fun _ _ => rfl)
                  · obtain rfl := Option.some.inj ho
                    refine .inr (.inl ⟨9, true, _, 33, rfl, rfl, rfl, (by kernel_rfl), (by kernel_rfl), fun v w' h => h, ?_⟩)
                    have e35 : a.eval (.tmp 35) = .bool false := hrd 11 _ 35 rfl rfl (by kernel_rfl) (by kernel_rfl)
                    exact wpv_of (wp_move _ _ rfl e35) (fun _ _ => rfl)
                  · obtain rfl := Option.some.inj ho
                    refine .inr (.inl ⟨12, false, _, 36, rfl, rfl, rfl, (by kernel_rfl), (by kernel_rfl), fun v w' h => h, ?_⟩)
                    have e0 : a.eval (.tmp 0) = .slice (some ⟨g, 0, none⟩) n n := hpar 0 _ (by kernel_rfl) (by kernel_rfl)
                    exact wpv_of (wp_move _ _ rfl e0) (fun _ _ => rfl)
                  · obtain rfl := Option.some.inj ho
                    refine .inr (.inl ⟨12, false, _, 36, rfl, rfl, rfl, (by kernel_rfl), (by kernel_rfl), fun v w' h => h, ?_⟩)
                    have e8 : a.eval (.tmp 8) = .int .i64 ((rr : Nat) : Int) := hpar 8 _ (by kernel_rfl) (by kernel_rfl)
                    exact wpv_of (wp_move _ _ rfl e8) (fun _ _ => rfl)
                  · obtain rfl := Option.some.inj ho
                    refine .inr (.inl ⟨12, false, _, 36, rfl, rfl, rfl, (by kernel_rfl), (by kernel_rfl), fun v w' h => h, ?_⟩)
                    have e37 : a.eval (.tmp 37) = .slice (some ⟨g, 0, none⟩) n n := hrd 13 _ 37 rfl rfl (by kernel_rfl) (by kernel_rfl)
                    have e38 : a.eval (.tmp 38) = .int .i64 ((rr : Nat) : Int) := hrd 14 _ 38 rfl rfl (by kernel_rfl) (by kernel_rfl)
                    exact wpv_of (wp_index_row1 77 49 _ _ rfl uMatT sLinT g n n (rr) .i64 e37 e38 hrn) (fun _ _ => rfl)
                  · obtain rfl := Option.some.inj ho
                    refine .inr (.inl ⟨12, false, _, 36, rfl, rfl, rfl, (by kernel_rfl), (by kernel_rfl), fun v w' h => h, ?_⟩)
                    have e39 : a.eval (.tmp 39) = .pointer (some ⟨g, rr, none⟩) := hrd 15 _ 39 rfl rfl (by kernel_rfl) (by kernel_rfl)
                    exact wpv_of (wp_load_slice 49 55 _ rfl _ e39 uLinT _ ((hM.below hBl).cell1 hrn)) (fun _ _ => rfl)
                  · obtain rfl := Option.some.inj ho
                    refine .inr (.inl ⟨12, false, _, 36, rfl, rfl, rfl, (by kernel_rfl), (by kernel_rfl), fun v w' h => h, ?_⟩)
                    have e9 : a.eval (.tmp 9) = .int .i64 ((qq : Nat) : Int) := hpar 9 _ (by kernel_rfl) (by kernel_rfl)
                    exact wpv_of (wp_move _ _ rfl e9) (fun _ _ => rfl)
                  · obtain rfl := Option.some.inj ho
                    refine .inr (.inl ⟨12, false, _, 36, rfl, rfl, rfl, (by kernel_rfl), (by kernel_rfl), fun v w' h => h, ?_⟩)
                    have e40 : a.eval (.tmp 40) = .slice (some ⟨b (rr), 0, none⟩) n (c (rr)) := hrd 16 _ 40 rfl rfl (by kernel_rfl) (by kernel_rfl)
                    have e41 : a.eval (.tmp 41) = .int .i64 ((qq : Nat) : Int) := hrd 17 _ 41 rfl rfl (by kernel_rfl) (by kernel_rfl)
                    exact wpv_of (wp_index_row1 49 55 _ _ rfl uLinT sEntT (b (rr)) n (c (rr)) (qq) .i64 e40 e41 hqn) (fun _ _ => rfl)
                  · obtain rfl := Option.some.inj ho
                    refine .inr (.inl ⟨12, false, _, 36, rfl, rfl, rfl, (by kernel_rfl), (by kernel_rfl), fun v w' h => h, ?_⟩)
                    have e42 : a.eval (.tmp 42) = .pointer (some ⟨b (rr), qq, none⟩) := hrd 18 _ 42 rfl rfl (by kernel_rfl) (by kernel_rfl)
                    exact wpv_of (wp_load_slice 55 2 _ rfl _ e42 uEntT _ ((hM.below hBl).cell2 hrn hqn)) (fun _ _ => rfl)
                  · obtain rfl := Option.some.inj ho
                    refine .inr (.inl ⟨12, false, _, 36, rfl, rfl, rfl, (by kernel_rfl), (by kernel_rfl), fun v w' h => h, ?_⟩)
                    have e43 : a.eval (.tmp 43) = (R (rr) (qq)) := hrd 19 _ 43 rfl rfl (by kernel_rfl) (by kernel_rfl)
                    exact wpv_of (wp_len _ 55 2 uEntT rfl oR (L) cR (e43.trans hRe)) (fun _ _ => rfl)
                  · obtain rfl := Option.some.inj ho
                    refine .inr (.inl ⟨12, false, _, 36, rfl, rfl, rfl, (by kernel_rfl), (by kernel_rfl), fun v w' h => h, ?_⟩)
                    have e0 : a.eval (.tmp 0) = .slice (some ⟨g, 0, none⟩) n n := hpar 0 _ (by kernel_rfl) (by kernel_rfl)
                    exact wpv_of (wp_move _ _ rfl e0) (fun _ _ => rfl)
                  · obtain rfl := Option.some.inj ho
                    refine .inr (.inl ⟨12, false, _, 36, rfl, rfl, rfl, (by kernel_rfl), (by kernel_rfl), fun v w' h => h, ?_⟩)
                    have e6 : a.eval (.tmp 6) = .int .i64 ((X : Nat) : Int) := hpar 6 _ (by kernel_rfl) (by kernel_rfl)
                    exact wpv_of (wp_move _ _ rfl e6) (fun _ _ => rfl)
                  · obtain rfl := Option.some.inj ho
                    refine .inr (.inl ⟨12, false, _, 36, rfl, rfl, rfl, (by kernel_rfl), (by kernel_rfl), fun v w' h => h, ?_⟩)
                    have e45 : a.eval (.tmp 45) = .slice (some ⟨g, 0, none⟩) n n := hrd 21 _ 45 rfl rfl (by kernel_rfl) (by kernel_rfl)
                    have e46 : a.eval (.tmp 46) = .int .i64 ((X : Nat) : Int) := hrd 22 _ 46 rfl rfl (by kernel_rfl) (by kernel_rfl)
                    exact wpv_of (wp_index_row1 77 49 _ _ rfl uMatT sLinT g n n (X) .i64 e45 e46 hXn) (fun _ _ => rfl)
                  · obtain rfl := Option.some.inj ho
                    refine .inr (.inl ⟨12, false, _, 36, rfl, rfl, rfl, (by kernel_rfl), (by kernel_rfl), fun v w' h => h, ?_⟩)
                    have e47 : a.eval (.tmp 47) = .pointer (some ⟨g, X, none⟩) := hrd 23 _ 47 rfl rfl (by kernel_rfl) (by kernel_rfl)
                    exact wpv_of (wp_load_slice 49 55 _ rfl _ e47 uLinT _ ((hM.below hBl).cell1 hXn)) (fun _ _ => rfl)
                  · obtain rfl := Option.some.inj ho
                    refine .inr (.inl ⟨12, false, _, 36, rfl, rfl, rfl, (by kernel_rfl), (by kernel_rfl), fun v w' h => h, ?_⟩)
                    have e7 : a.eval (.tmp 7) = .int .i64 ((Y : Nat) : Int) := hpar 7 _ (by kernel_rfl) (by kernel_rfl)
                    exact wpv_of (wp_move _ _ rfl e7) (fun _ _ => rfl)
                  · obtain rfl := Option.some.inj ho
                    refine .inr (.inl ⟨12, false, _, 36, rfl, rfl, rfl, (by kernel_rfl), (by kernel_rfl), fun v w' h => h, ?_⟩)
                    have e48 : a.eval (.tmp 48) = .slice (some ⟨b (X), 0, none⟩) n (c (X)) := hrd 24 _ 48 rfl rfl (by kernel_rfl) (by kernel_rfl)
                    have e49 : a.eval (.tmp 49) = .int .i64 ((Y : Nat) : Int) := hrd 25 _ 49 rfl rfl (by kernel_rfl) (by kernel_rfl)
                    exact wpv_of (wp_index_row1 49 55 _ _ rfl uLinT sEntT (b (X)) n (c (X)) (Y) .i64 e48 e49 hYn) (fun _ _ => rfl)
                  · obtain rfl := Option.some.inj ho
                    refine .inr (.inl ⟨12, false, _, 36, rfl, rfl, rfl, (by kernel_rfl), (by kernel_rfl), fun v w' h => h, ?_⟩)
                    have e50 : a.eval (.tmp 50) = .pointer (some ⟨b (X), Y, none⟩) := hrd 26 _ 50 rfl rfl (by kernel_rfl) (by kernel_rfl)
                    exact wpv_of (wp_load_slice 55 2 _ rfl _ e50 uEntT _ ((hM.below hBl).cell2 hXn hYn)) (fun _ _ => rfl)
                  · obtain rfl := Option.some.inj ho
                    refine .inr (.inl ⟨12, false, _, 36, rfl, rfl, rfl, (by kernel_rfl), (by kernel_rfl), fun v w' h => h, ?_⟩)
                    have e51 : a.eval (.tmp 51) = (R (X) (Y)) := hrd 27 _ 51 rfl rfl (by kernel_rfl) (by kernel_rfl)
                    exact wpv_of (wp_len _ 55 2 uEntT rfl oS (LS) cS (e51.trans hSe)) (fun _ _ => rfl)
                  · obtain rfl := Option.some.inj ho
                    refine .inr (.inl ⟨12, false, _, 36, rfl, rfl, rfl, (by kernel_rfl), (by kernel_rfl), fun v w' h => h, ?_⟩)
                    have e44 : a.eval (.tmp 44) = .int .i64 ((L : Nat) : Int) := hrd 20 _ 44 rfl rfl (by kernel_rfl) (by kernel_rfl)
                    have e52 : a.eval (.tmp 52) = .int .i64 ((LS : Nat) : Int) := hrd 28 _ 52 rfl rfl (by kernel_rfl) (by kernel_rfl)
                    exact wpv_of (wp_cmp .lss _ _ _ _ rfl rfl .i64 _ _ e44 e52 _ hq2) (fun _ _ => rfl)
                  · obtain rfl := Option.some.inj ho
                    refine .inr (.inl ⟨9, true, _, 33, rfl, rfl, rfl, (by kernel_rfl), (by kernel_rfl), fun v w' h => h, ?_⟩)
                    have e36 : a.eval (.tmp 36) = .bool false := hrd 12 _ 36 rfl rfl (by kernel_rfl) (by kernel_rfl)
                    have e53 : a.eval (.tmp 53) = .bool false := hrd 29 _ 53 rfl rfl (by kernel_rfl) (by kernel_rfl)
                    exact wpv_of (wp_pickF _ _ _ rfl e36 (.bool false) e53) (fun _ _ => rfl)
                  · obtain rfl := Option.some.inj ho
                    refine .inl ⟨rfl, ?_⟩
                    have e33 : a.eval (.tmp 33) = .bool true := hrd 9 _ 33 rfl rfl (by kernel_rfl) (by kernel_rfl)
                    have e54 : a.eval (.tmp 54) = .bool false := hrd 30 _ 54 rfl rfl (by kernel_rfl) (by kernel_rfl)
                    exact wpv_of (wp_pickT _ _ _ rfl e33 (.bool false) e54) (fun _ _ => rfl)
                  · simp at ho
                intro vals xD hBx hSx hc0
                have e0 : vals 0 = .slice (some ⟨g, 0, none⟩) n n := hc0 0 (by simp)
                have e1 : vals 1 = .int .i64 ((rr : Nat) : Int) := hc0 1 (by simp)
                have e2 : vals 2 = .pointer (some ⟨g, rr, none⟩) := hc0 2 (by simp)
                have e3 : vals 3 = .slice (some ⟨b (rr), 0, none⟩) n (c (rr)) := hc0 3 (by simp)
                have e4 : vals 4 = .int .i64 ((qq : Nat) : Int) := hc0 4 (by simp)
                have e5 : vals 5 = .pointer (some ⟨b (rr), qq, none⟩) := hc0 5 (by simp)
                have e6 : vals 6 = (R (rr) (qq)) := hc0 6 (by simp)
                have e7 : vals 7 = .int .i64 ((L : Nat) : Int) := hc0 7 (by simp)
                have e8 : vals 8 = .bool true := hc0 8 (by simp)
                have e9 : vals 9 = .bool true := hc0 9 (by simp)
                have e10 : vals 10 = .int .i64 ((X : Nat) : Int) := hc0 10 (by simp)
                have e11 : vals 11 = .bool false := hc0 11 (by simp)
                have e12 : vals 12 = .bool false := hc0 12 (by simp)
                have e13 : vals 13 = .slice (some ⟨g, 0, none⟩) n n := hc0 13 (by simp)
                have e14 : vals 14 = .int .i64 ((rr : Nat) : Int) := hc0 14 (by simp)
                have e15 : vals 15 = .pointer (some ⟨g, rr, none⟩) := hc0 15 (by simp)
                have e16 : vals 16 = .slice (some ⟨b (rr), 0, none⟩) n (c (rr)) := hc0 16 (by simp)
                have e17 : vals 17 = .int .i64 ((qq : Nat) : Int) := hc0 17 (by simp)
                have e18 : vals 18 = .pointer (some ⟨b (rr), qq, none⟩) := hc0 18 (by simp)
                have e19 : vals 19 = (R (rr) (qq)) := hc0 19 (by simp)
                have e20 : vals 20 = .int .i64 ((L : Nat) : Int) := hc0 20 (by simp)
                have e21 : vals 21 = .slice (some ⟨g, 0, none⟩) n n := hc0 21 (by simp)
                have e22 : vals 22 = .int .i64 ((X : Nat) : Int) := hc0 22 (by simp)
                have e23 : vals 23 = .pointer (some ⟨g, X, none⟩) := hc0 23 (by simp)
                have e24 : vals 24 = .slice (some ⟨b (X), 0, none⟩) n (c (X)) := hc0 24 (by simp)
                have e25 : vals 25 = .int .i64 ((Y : Nat) : Int) := hc0 25 (by simp)
                have e26 : vals 26 = .pointer (some ⟨b (X), Y, none⟩) := hc0 26 (by simp)
                have e27 : vals 27 = (R (X) (Y)) := hc0 27 (by simp)
                have e28 : vals 28 = .int .i64 ((LS : Nat) : Int) := hc0 28 (by simp)
                have e29 : vals 29 = .bool false := hc0 29 (by simp)
                have e30 : vals 30 = .bool false := hc0 30 (by simp)
                have e31 : vals 31 = .bool false := hc0 31 (by simp)
                simp only [List.length_cons, List.length_nil, Nat.zero_add, Nat.reduceAdd, List.replicate, putAll, if_true, Act.put, List.setIfInBounds_toArray, List.set_cons_zero, List.set_cons_succ, e0, e1, e2, e3, e4, e5, e6, e7, e8, e9, e10, e11, e12, e13, e14, e15, e16, e17, e18, e19, e20, e21, e22, e23, e24, e25, e26, e27, e28, e29, e30, e31]
                replace hb := below_step hb hBx
                replace hM := hM.below hBx
                clear hM0
                clear hc0 hSx e0 e1 e2 e3 e4 e5 e6 e7 e8 e9 e10 e11 e12 e13 e14 e15 e16 e17 e18 e19 e20 e21 e22 e23 e24 e25 e26 e27 e28 e29 e30 e31
                go_wp2_with fail
                go_roundw
                case rel => exact ⟨X, Y, qq + 1, rfl, rfl, by go_num, by omega, by omega, hS2, hM, hb⟩
                case measure => simp [intOf] <;> omega
        · obtain rfl : qq = n := by omega
          have hS2 := Lib.hid hS.out.line
          clear hS
          go_wp2_with fail
          go_roundw
          case rel => exact ⟨x, y, rr + 1, rfl, rfl, by go_num, by omega, by omega, hS2, hM, hb⟩
          case measure => simp [intOf] <;> omega
    · obtain rfl : rr = n := by omega
      obtain ⟨X, Y, rfl, rfl, hsm⟩ := hS.out.found hexH.out
      have hsmH := Lib.hid hsm
      clear hsm hS
      go_wp2_with fail
      go_ret2
      exact ⟨X, Y, rfl, hsmH.out, hb⟩
end Go.Proofs.Ytnkkkgaojhkniab
