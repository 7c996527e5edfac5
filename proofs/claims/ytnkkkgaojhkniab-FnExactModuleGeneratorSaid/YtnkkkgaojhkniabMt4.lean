/- Walks: multiples of a line and of a column taken from the others. -/
import Derived.Test.YtnkkkgaojhkniabMt3
import Derived.Test.YtnkkkgaojhkniabMt2
set_option linter.unusedVariables false
set_option linter.unusedSimpArgs false
namespace Go.Proofs.Ytnkkkgaojhkniab
open Go.RowKit
theorem MatB.bel {w0 wr x : World} {B U g n : Nat} {b c : Nat → Nat} {R : Nat → Nat → Value} {M : MxL} (h : MatB wr B U g n b c R M) (hb : Kept B U w0 wr) (hx : Below wr.heap.size wr x) : Kept B U w0 x :=
  hb.below (Nat.le_trans h.hg (Nat.le_of_lt h.out.lt)) hx
/-- Lines ahead of r are done, and line r as far as place q. -/
def rowPart (p : Int) (n k r q : Nat) (M : MxL) : MxL := fun i j =>
  if k < i ∧ k ≤ j ∧ j < n ∧ (i < r ∨ (i = r ∧ j < q)) then addp p (M i j) (mulp p (divp p (M i k) (M k k)).1 (M k j)) (-1) else M i j
def colPart (p : Int) (n k r q : Nat) (M : MxL) : MxL := fun i j => rowPart p n k r q (fun a b => M b a) j i
section
variable {p : Int} {n k r q : Nat} {M : MxL}
theorem rowPart_at {j : Nat} (h : q ≤ j) : rowPart p n k r q M r j = M r j := if_neg (by omega)
theorem rowPart_k {j : Nat} : rowPart p n k r q M k j = M k j := if_neg (by omega)
theorem colPart_at {j : Nat} (h : q ≤ j) : colPart p n k r q M j r = M j r := rowPart_at h
theorem colPart_k {j : Nat} : colPart p n k r q M j k = M j k := rowPart_k
theorem rowPart_next (hk : k < r) (hr : r < n) (hq : k ≤ q) (hqn : q < n) {xs : List Int} (e : xs = addp p (M r q) (mulp p (divp p (M r k) (M k k)).1 (M k q)) (-1)) : updR (rowPart p n k r q M) r q xs = rowPart p n k r (q + 1) M := by
  funext i j
  by_cases h : i = r ∧ j = q
  · obtain ⟨rfl, rfl⟩ := h
    rw [updR_at, e]
    exact (if_pos (by omega)).symm
  · rw [updR_ne _ _ h]
    unfold rowPart
    by_cases h2 : k < i ∧ k ≤ j ∧ j < n ∧ (i < r ∨ (i = r ∧ j < q))
    · rw [if_pos h2, if_pos (by omega)]
    · rw [if_neg h2, if_neg (by omega)]
theorem colPart_next (hk : k < r) (hr : r < n) (hq : k ≤ q) (hqn : q < n) {xs : List Int} (e : xs = addp p (M q r) (mulp p (divp p (M k r) (M k k)).1 (M q k)) (-1)) : updR (colPart p n k r q M) q r xs = colPart p n k r (q + 1) M := by
  funext i j
  have h := congrFun (congrFun (rowPart_next (M := fun a b => M b a) hk hr hq hqn e) j) i
  refine Eq.trans ?_ h
  unfold updR
  by_cases h2 : i = q ∧ j = r
  · rw [if_pos h2, if_pos ⟨h2.2, h2.1⟩]
  · rw [if_neg h2, if_neg fun h3 => h2 ⟨h3.2, h3.1⟩]; rfl
theorem rowPart_line {i j : Nat} (hi : i < n) (hj : j < n) : rowPart p n k r n M i j = rowPart p n k (r + 1) k M i j := by
  unfold rowPart
  by_cases h2 : k < i ∧ k ≤ j ∧ j < n ∧ (i < r ∨ (i = r ∧ j < n))
  · rw [if_pos h2, if_pos (by omega)]
  · rw [if_neg h2, if_neg (by omega)]
theorem colPart_line {i j : Nat} (hi : i < n) (hj : j < n) : colPart p n k r n M i j = colPart p n k (r + 1) k M i j := rowPart_line hj hi
theorem rowPart_start {i j : Nat} : rowPart p n k (k + 1) k M i j = M i j := if_neg (by omega)
theorem colPart_start {i j : Nat} : colPart p n k (k + 1) k M i j = M i j := if_neg (by omega)
theorem rowPart_all {i j : Nat} (hi : i < n) (hj : j < n) : rowPart p n k n k M i j = rowPh p n k M i j := by
  unfold rowPart rowPh
  by_cases h2 : k < i ∧ i < n ∧ k ≤ j ∧ j < n
  · rw [if_pos h2, if_pos (by omega)]
  · rw [if_neg h2, if_neg (by omega)]
theorem colPart_all {i j : Nat} (hi : i < n) (hj : j < n) : colPart p n k n k M i j = colPh p n k M i j := rowPart_all hj hi
end
/-- No rests ahead of r. -/
def Cl1 (p : Int) (k : Nat) (M : MxL) (r : Nat) : Prop := ∀ i, k < i → i < r → (divp p (M i k) (M k k)).2 = []
def Cl2 (p : Int) (k : Nat) (M : MxL) (r : Nat) : Prop := ∀ j, k < j → j < r → (divp p (M k j) (M k k)).2 = []
theorem Cl1_next {p : Int} {k r : Nat} {M : MxL} {z t : Bool} (h : z = true ↔ Cl1 p k M r) (hk : k < r) (ht : t = true ↔ (divp p (M r k) (M k k)).2 = []) : (z && t) = true ↔ Cl1 p k M (r + 1) := by
  rw [Bool.and_eq_true, h, ht]
  refine ⟨fun ⟨h1, h2⟩ i hi hir => ?_, fun h1 => ⟨fun i hi hir => h1 i hi (by omega), h1 r hk (by omega)⟩⟩
  by_cases e : i = r
  · subst e; exact h2
  · exact h1 i hi (by omega)
theorem Cl2_next {p : Int} {k r : Nat} {M : MxL} {z0 z t : Bool} (h : z = true ↔ (z0 = true ∧ Cl2 p k M r)) (hk : k < r) (ht : t = true ↔ (divp p (M k r) (M k k)).2 = []) : (z && t) = true ↔ (z0 = true ∧ Cl2 p k M (r + 1)) := by
  rw [Bool.and_eq_true, h, ht]
  refine ⟨fun ⟨⟨h0, h1⟩, h2⟩ => ⟨h0, fun i hi hir => ?_⟩, fun ⟨h0, h1⟩ => ⟨⟨h0, fun i hi hir => h1 i hi (by omega)⟩, h1 r hk (by omega)⟩⟩
  by_cases e : i = r
  · subst e; exact h2
  · exact h1 i hi (by omega)
set_option maxRecDepth 20000 in
set_option maxHeartbeats 8000000 in
theorem clear_any (B U g n k : Nat) (p : Int) (M : MxL) (w : World) (hp : Pr p) (h : IsMat w B U g n M) (hn : n ≤ 6) (hk : k < n) (hpo : ∀ i j, Part k n i → Part k n j → Po p (M i j) ∧ (M i j).length ≤ 100)
    (h1 : ∀ i j, Part k n i → Part k n j → (rowPh p n k M i j).length ≤ 100) (hne : M k k ≠ []) (cl : Bool) (hcl : Clean p n k M ↔ cl = true) :
    Calls Try.prog 65 #[.int .i64 p, .slice (some ⟨g, 0, none⟩) n n, .int .i64 k] w fun e w' => e = .returned (.bool cl) ∧ IsMat w' B U g n (clrM p n k M) ∧ Kept B U w w' := by
  have hp2 := hp.pos
  obtain ⟨M1, hM1⟩ : ∃ M1, rowPh p n k M = M1 := ⟨_, rfl⟩
  have hpo2 : ∀ i j, Part k n i → Part k n j → Po p (M1 i j) ∧ (M1 i j).length ≤ 100 := fun i j hi hj => by
    rw [← hM1]
    refine ⟨?_, h1 i j hi hj⟩
    by_cases e : k < i ∧ i < n ∧ k ≤ j ∧ j < n
    · rw [rowPh_pos e]; exact addp_Po (by omega) _ _ _
    · rw [rowPh_neg e]; exact (hpo i j hi hj).1
  have hkk1 : M1 k k = M k k := by rw [← hM1]; exact rowPh_row
  have hneM1 : M1 k k ≠ [] := by rw [hkk1]; exact hne
  have hfin : ∀ z0 : Bool, (z0 = true ↔ Cl1 p k M n) → ((z0 = true ∧ Cl2 p k M1 n) ↔ cl = true) := fun z0 hz => by
    rw [hz, ← hcl]
    have e : ∀ j, M1 k j = M k j := fun j => by rw [← hM1]; exact rowPh_row
    refine ⟨fun ⟨q1, q2⟩ => ⟨q1, fun j hj hj2 => ?_⟩, fun ⟨q1, q2⟩ => ⟨q1, fun j hj hj2 => ?_⟩⟩
    · have := q2 j hj hj2; rwa [e, e] at this
    · rw [e, e]; exact q2 j hj hj2
  have hpH := Lib.hid hp
  have hpoH := Lib.hid hpo
  have hpo2H := Lib.hid hpo2
  have hneH := Lib.hid hne
  have hne1H := Lib.hid hneM1
  have hfinH := Lib.hid hfin
  have hM1H := Lib.hid hM1
  obtain ⟨b, c, R, hM⟩ := h
  clear hp hpo hpo2 hne hneM1 hkk1 hfin hM1 hcl h1
  have hnI : (n : Int) ≤ 6 := by omega
  have hkn : (k : Int) < (n : Int) := by omega
  go_enter Try.func65, Try.ntmps65
  go_wp2_with fail
  go_loopw [7, 8] (fun vz vi wr => ∃ (z : Bool) (rr : Nat) (R : Nat → Nat → Value), vz = .bool z ∧ vi = .int .i64 (rr : Int) ∧ k < rr ∧ rr ≤ n ∧ Hid (z = true ↔ Cl1 p k M rr) ∧ MatB wr B U g n b c R (rowPart p n k rr k M) ∧ Kept B U w wr) (fun _ vi _ => n - (intOf vi).toNat)
  case atStart => exact ⟨true, k + 1, R, rfl, by go_num, by omega, by omega, Lib.hid ⟨fun _ i h1 h2 => absurd h1 (by omega), fun _ => rfl⟩, hM.congr (fun i j _ _ => rowPart_start.symm), Kept.refl _ _ _⟩
  case round =>
    clear hM
    obtain ⟨z, rr, R, rfl, rfl, hkr, hrn', hz, hM, hb⟩ := hrel
    rename World => w0
    by_cases hrn : rr < n
    · skip
      have hkI : (k : Int) < (n : Int) := by omega
      have hrI : (rr : Int) < (n : Int) := by omega
      have hdiv := Lib.hid (fun (w2 : World) (hm : MatB w2 B U g n b c R (rowPart p n k rr k M)) => divide_any (R rr k) (R k k) (M rr k) (M k k) p w2 hpH.out (by have := hm.row rr k (by omega) (by omega); rwa [rowPart_at (Nat.le_refl k)] at this) (by have := hm.row k k (by omega) (by omega); rwa [rowPart_k] at this)
        (hpoH.out rr k ⟨by omega, by omega⟩ ⟨by omega, by omega⟩).1 (hpoH.out k k ⟨Nat.le_refl k, hk⟩ ⟨Nat.le_refl k, hk⟩).1 hneH.out (by have := (hpoH.out rr k ⟨by omega, by omega⟩ ⟨by omega, by omega⟩).2; omega) (by have := (hpoH.out k k ⟨Nat.le_refl k, hk⟩ ⟨Nat.le_refl k, hk⟩).2; omega))
      go_upto_region 5 with (fail)
      refine gen_guard (w := _) (by kernel_rfl) (by kernel_rfl) (by kernel_rfl)
          (fun i => ([fun zv _ => zv = .int .i64 p, fun zv _ => zv = .slice (some ⟨g, 0, none⟩) n n, fun zv _ => zv = .int .i64 ((rr : Nat) : Int), fun zv _ => zv = .pointer (some ⟨g, rr, none⟩), fun zv _ => zv = .slice (some ⟨b (rr), 0, none⟩) n (c (rr)), fun zv _ => zv = .int .i64 ((k : Nat) : Int), fun zv _ => zv = .pointer (some ⟨b (rr), k, none⟩), fun zv _ => zv = (R (rr) (k)), fun zv _ => zv = .slice (some ⟨g, 0, none⟩) n n, fun zv _ => zv = .int .i64 ((k : Nat) : Int), fun zv _ => zv = .pointer (some ⟨g, k, none⟩), fun zv _ => zv = .slice (some ⟨b (k), 0, none⟩) n (c (k)), fun zv _ => zv = .int .i64 ((k : Nat) : Int), fun zv _ => zv = .pointer (some ⟨b (k), k, none⟩), fun zv _ => zv = (R (k) (k)), fun v w => ∃ v1 v2, v = .tuple #[v1, v2] ∧ IsRow w v1 (divp p (M rr k) (M k k)).1 ∧ IsRow w v2 (divp p (M rr k) (M k k)).2, fun v w => ∃ v1 v2, v = .tuple #[v1, v2] ∧ IsRow w v1 (divp p (M rr k) (M k k)).1 ∧ IsRow w v2 (divp p (M rr k) (M k k)).2, fun v w => IsRow w v (divp p (M rr k) (M k k)).1, fun v w => IsRow w v (divp p (M rr k) (M k k)).2, fun v w => IsRow w v (divp p (M rr k) (M k k)).1, fun v w => IsRow w v (divp p (M rr k) (M k k)).2] : List (Value → World → Prop)).getD i (fun _ _ => True))
          (fun w' => True) trivial (fun w1 w2 h hb => trivial) ?_ ?_ ?_
      · intro i v w1 w2 h hb
        rcases i with _|_|_|_|_|_|_|_|_|_|_|_|_|_|_|_|_|_|_|_|_|i
        · exact h
        · exact h
        · exact h
        · exact h
        · exact h
        · exact h
        · exact h
        · exact h
        · exact h
        · exact h
        · exact h
        · exact h
        · exact h
        · exact h
        · exact h
        · obtain ⟨v1, v2, e, h1, h2⟩ := h; exact ⟨v1, v2, e, h1.below hb, h2.below hb⟩
        · obtain ⟨v1, v2, e, h1, h2⟩ := h; exact ⟨v1, v2, e, h1.below hb, h2.below hb⟩
        · exact (show IsRow w1 v (divp p (M rr k) (M k k)).1 from h).below hb
        · exact (show IsRow w1 v (divp p (M rr k) (M k k)).2 from h).below hb
        · exact (show IsRow w1 v (divp p (M rr k) (M k k)).1 from h).below hb
        · exact (show IsRow w1 v (divp p (M rr k) (M k k)).2 from h).below hb
        · exact h
      · intro i o ho a w2 hBl hSx hrd hpar
        rcases i with _|_|_|_|_|_|_|_|_|_|_|_|_|_|_|_|_|_|_|_|_|i
        · obtain rfl := Option.some.inj ho
          refine .inl ⟨rfl, ?_⟩
          have e0 : a.eval (.tmp 0) = .int .i64 p := hpar 0 _ (by kernel_rfl) (by kernel_rfl)
          exact wpv_of (wp_move _ _ rfl e0) (fun _ _ => rfl)
        · obtain rfl := Option.some.inj ho
          refine .inl ⟨rfl, ?_⟩
          have e1 : a.eval (.tmp 1) = .slice (some ⟨g, 0, none⟩) n n := hpar 1 _ (by kernel_rfl) (by kernel_rfl)
          exact wpv_of (wp_move _ _ rfl e1) (fun _ _ => rfl)
        · obtain rfl := Option.some.inj ho
          refine .inl ⟨rfl, ?_⟩
          have e8 : a.eval (.tmp 8) = .int .i64 ((rr : Nat) : Int) := hpar 8 _ (by kernel_rfl) (by kernel_rfl)
          exact wpv_of (wp_move _ _ rfl e8) (fun _ _ => rfl)
        · obtain rfl := Option.some.inj ho
          refine .inl ⟨rfl, ?_⟩
          have e26 : a.eval (.tmp 26) = .slice (some ⟨g, 0, none⟩) n n := hrd 1 _ 26 rfl rfl (by kernel_rfl) (by kernel_rfl)
          have e27 : a.eval (.tmp 27) = .int .i64 ((rr : Nat) : Int) := hrd 2 _ 27 rfl rfl (by kernel_rfl) (by kernel_rfl)
          exact wpv_of (wp_index_row1 77 49 _ _ rfl uMatT sLinT g n n (rr) .i64 e26 e27 hrn) (fun _ _ => rfl)
        · obtain rfl := Option.some.inj ho
          refine .inl ⟨rfl, ?_⟩
          have e28 : a.eval (.tmp 28) = .pointer (some ⟨g, rr, none⟩) := hrd 3 _ 28 rfl rfl (by kernel_rfl) (by kernel_rfl)
          exact wpv_of (wp_load_slice 49 55 _ rfl _ e28 uLinT _ ((hM.below hBl).cell1 hrn)) (fun _ _ => rfl)
        · obtain rfl := Option.some.inj ho
          refine .inl ⟨rfl, ?_⟩
          have e2 : a.eval (.tmp 2) = .int .i64 ((k : Nat) : Int) := hpar 2 _ (by kernel_rfl) (by kernel_rfl)
          exact wpv_of (wp_move _ _ rfl e2) (fun _ _ => rfl)
        · obtain rfl := Option.some.inj ho
          refine .inl ⟨rfl, ?_⟩
          have e29 : a.eval (.tmp 29) = .slice (some ⟨b (rr), 0, none⟩) n (c (rr)) := hrd 4 _ 29 rfl rfl (by kernel_rfl) (by kernel_rfl)
          have e30 : a.eval (.tmp 30) = .int .i64 ((k : Nat) : Int) := hrd 5 _ 30 rfl rfl (by kernel_rfl) (by kernel_rfl)
          exact wpv_of (wp_index_row1 49 55 _ _ rfl uLinT sEntT (b (rr)) n (c (rr)) (k) .i64 e29 e30 hk) (fun _ _ => rfl)
        · obtain rfl := Option.some.inj ho
          refine .inl ⟨rfl, ?_⟩
          have e31 : a.eval (.tmp 31) = .pointer (some ⟨b (rr), k, none⟩) := hrd 6 _ 31 rfl rfl (by kernel_rfl) (by kernel_rfl)
          exact wpv_of (wp_load_slice 55 2 _ rfl _ e31 uEntT _ ((hM.below hBl).cell2 hrn hk)) (fun _ _ => rfl)
        · obtain rfl := Option.some.inj ho
          refine .inl ⟨rfl, ?_⟩
          have e1 : a.eval (.tmp 1) = .slice (some ⟨g, 0, none⟩) n n := hpar 1 _ (by kernel_rfl) (by kernel_rfl)
          exact wpv_of (wp_move _ _ rfl e1) (fun _ _ => rfl)
        · obtain rfl := Option.some.inj ho
          refine .inl ⟨rfl, ?_⟩
          have e2 : a.eval (.tmp 2) = .int .i64 ((k : Nat) : Int) := hpar 2 _ (by kernel_rfl) (by kernel_rfl)
          exact wpv_of (wp_move _ _ rfl e2) (fun _ _ => rfl)
        · obtain rfl := Option.some.inj ho
          refine .inl ⟨rfl, ?_⟩
          have e33 : a.eval (.tmp 33) = .slice (some ⟨g, 0, none⟩) n n := hrd 8 _ 33 rfl rfl (by kernel_rfl) (by kernel_rfl)
          have e34 : a.eval (.tmp 34) = .int .i64 ((k : Nat) : Int) := hrd 9 _ 34 rfl rfl (by kernel_rfl) (by kernel_rfl)
          exact wpv_of (wp_index_row1 77 49 _ _ rfl uMatT sLinT g n n (k) .i64 e33 e34 hk) (fun _ _ => rfl)
        · obtain rfl := Option.some.inj ho
          refine .inl ⟨rfl, ?_⟩
          have e35 : a.eval (.tmp 35) = .pointer (some ⟨g, k, none⟩) := hrd 10 _ 35 rfl rfl (by kernel_rfl) (by kernel_rfl)
          exact wpv_of (wp_load_slice 49 55 _ rfl _ e35 uLinT _ ((hM.below hBl).cell1 hk)) (fun _ _ => rfl)
        · obtain rfl := Option.some.inj ho
          refine .inl ⟨rfl, ?_⟩
          have e2 : a.eval (.tmp 2) = .int .i64 ((k : Nat) : Int) := hpar 2 _ (by kernel_rfl) (by kernel_rfl)
          exact wpv_of (wp_move _ _ rfl e2) (fun _ _ => rfl)
        · obtain rfl := Option.some.inj ho
          refine .inl ⟨rfl, ?_⟩
          have e36 : a.eval (.tmp 36) = .slice (some ⟨b (k), 0, none⟩) n (c (k)) := hrd 11 _ 36 rfl rfl (by kernel_rfl) (by kernel_rfl)
          have e37 : a.eval (.tmp 37) = .int .i64 ((k : Nat) : Int) := hrd 12 _ 37 rfl rfl (by kernel_rfl) (by kernel_rfl)
          exact wpv_of (wp_index_row1 49 55 _ _ rfl uLinT sEntT (b (k)) n (c (k)) (k) .i64 e36 e37 hk) (fun _ _ => rfl)
        · obtain rfl := Option.some.inj ho
          refine .inl ⟨rfl, ?_⟩
          have e38 : a.eval (.tmp 38) = .pointer (some ⟨b (k), k, none⟩) := hrd 13 _ 38 rfl rfl (by kernel_rfl) (by kernel_rfl)
          exact wpv_of (wp_load_slice 55 2 _ rfl _ e38 uEntT _ ((hM.below hBl).cell2 hk hk)) (fun _ _ => rfl)
        · obtain rfl := Option.some.inj ho
          refine .inl ⟨rfl, ?_⟩
          have e25 : a.eval (.tmp 25) = .int .i64 p := hrd 0 _ 25 rfl rfl (by kernel_rfl) (by kernel_rfl)
          have e32 : a.eval (.tmp 32) = (R (rr) (k)) := hrd 7 _ 32 rfl rfl (by kernel_rfl) (by kernel_rfl)
          have e39 : a.eval (.tmp 39) = (R (k) (k)) := hrd 14 _ 39 rfl rfl (by kernel_rfl) (by kernel_rfl)
          exact wpv_call 87 [.tmp 25, .tmp 32, .tmp 39] _ rfl [.int .i64 p, (R (rr) (k)), (R (k) (k))] (by simp only [List.map_cons, List.map_nil, e25, e32, e39]) Try.call87 ((hdiv.out w2 (hM.below hBl)).mono fun _ _ ⟨v1, v2, h1, h2, h3, h4⟩ => ⟨_, h1, ⟨v1, v2, rfl, h2, h3⟩, h4⟩)
        · obtain rfl := Option.some.inj ho
          refine .inl ⟨rfl, ?_⟩
          have h40 : (fun v w => ∃ v1 v2, v = .tuple #[v1, v2] ∧ IsRow w v1 (divp p (M rr k) (M k k)).1 ∧ IsRow w v2 (divp p (M rr k) (M k k)).2) (a.eval (.tmp 40)) w2 := hrd 15 _ 40 rfl rfl (by kernel_rfl) (by kernel_rfl)
          generalize e40 : a.eval (.tmp 40) = v40 at h40
          exact wpv_of (wp_move _ _ rfl e40) (fun w' hb => by have h := h40; obtain ⟨v1, v2, e, h1, h2⟩ := h; exact ⟨v1, v2, e, h1.below hb, h2.below hb⟩)
        · obtain rfl := Option.some.inj ho
          refine .inl ⟨rfl, ?_⟩
          have h24 : (fun v w => ∃ v1 v2, v = .tuple #[v1, v2] ∧ IsRow w v1 (divp p (M rr k) (M k k)).1 ∧ IsRow w v2 (divp p (M rr k) (M k k)).2) (a.eval (.tmp 24)) w2 := hrd 16 _ 24 rfl rfl (by kernel_rfl) (by kernel_rfl)
          generalize e24 : a.eval (.tmp 24) = v24 at h24
          obtain ⟨z1, z2, rfl, hz1, hz2⟩ := h24
          exact wpv_of (wp_extract _ 0 #[z1, z2] _ rfl e24 rfl) (fun w' hb => hz1.below hb)
        · obtain rfl := Option.some.inj ho
          refine .inl ⟨rfl, ?_⟩
          have h24 : (fun v w => ∃ v1 v2, v = .tuple #[v1, v2] ∧ IsRow w v1 (divp p (M rr k) (M k k)).1 ∧ IsRow w v2 (divp p (M rr k) (M k k)).2) (a.eval (.tmp 24)) w2 := hrd 16 _ 24 rfl rfl (by kernel_rfl) (by kernel_rfl)
          generalize e24 : a.eval (.tmp 24) = v24 at h24
          obtain ⟨z1, z2, rfl, hz1, hz2⟩ := h24
          exact wpv_of (wp_extract _ 1 #[z1, z2] _ rfl e24 rfl) (fun w' hb => hz2.below hb)
        · obtain rfl := Option.some.inj ho
          refine .inl ⟨rfl, ?_⟩
          have h41 : (fun v w => IsRow w v (divp p (M rr k) (M k k)).1) (a.eval (.tmp 41)) w2 := hrd 17 _ 41 rfl rfl (by kernel_rfl) (by kernel_rfl)
          generalize e41 : a.eval (.tmp 41) = v41 at h41
          exact wpv_of (wp_assign _ _ rfl e41) (fun w' hb => by have h := h41; exact (show IsRow w2 v41 (divp p (M rr k) (M k k)).1 from h).below hb)
        · obtain rfl := Option.some.inj ho
          refine .inl ⟨rfl, ?_⟩
          have h42 : (fun v w => IsRow w v (divp p (M rr k) (M k k)).2) (a.eval (.tmp 42)) w2 := hrd 18 _ 42 rfl rfl (by kernel_rfl) (by kernel_rfl)
          generalize e42 : a.eval (.tmp 42) = v42 at h42
          exact wpv_of (wp_assign _ _ rfl e42) (fun w' hb => by have h := h42; exact (show IsRow w2 v42 (divp p (M rr k) (M k k)).2 from h).below hb)
        · simp at ho
      intro vals xA hBx hSx hc0
      have e0 : vals 0 = .int .i64 p := hc0 0 (by simp)
      have e1 : vals 1 = .slice (some ⟨g, 0, none⟩) n n := hc0 1 (by simp)
      have e2 : vals 2 = .int .i64 ((rr : Nat) : Int) := hc0 2 (by simp)
      have e3 : vals 3 = .pointer (some ⟨g, rr, none⟩) := hc0 3 (by simp)
      have e4 : vals 4 = .slice (some ⟨b (rr), 0, none⟩) n (c (rr)) := hc0 4 (by simp)
      have e5 : vals 5 = .int .i64 ((k : Nat) : Int) := hc0 5 (by simp)
      have e6 : vals 6 = .pointer (some ⟨b (rr), k, none⟩) := hc0 6 (by simp)
      have e7 : vals 7 = (R (rr) (k)) := hc0 7 (by simp)
      have e8 : vals 8 = .slice (some ⟨g, 0, none⟩) n n := hc0 8 (by simp)
      have e9 : vals 9 = .int .i64 ((k : Nat) : Int) := hc0 9 (by simp)
      have e10 : vals 10 = .pointer (some ⟨g, k, none⟩) := hc0 10 (by simp)
      have e11 : vals 11 = .slice (some ⟨b (k), 0, none⟩) n (c (k)) := hc0 11 (by simp)
      have e12 : vals 12 = .int .i64 ((k : Nat) : Int) := hc0 12 (by simp)
      have e13 : vals 13 = .pointer (some ⟨b (k), k, none⟩) := hc0 13 (by simp)
      have e14 : vals 14 = (R (k) (k)) := hc0 14 (by simp)
      have cA15 : (fun v w => ∃ v1 v2, v = .tuple #[v1, v2] ∧ IsRow w v1 (divp p (M rr k) (M k k)).1 ∧ IsRow w v2 (divp p (M rr k) (M k k)).2) (vals 15) xA := hc0 15 (by simp)
      generalize ev15 : vals 15 = uA15 at cA15
      have cA16 : (fun v w => ∃ v1 v2, v = .tuple #[v1, v2] ∧ IsRow w v1 (divp p (M rr k) (M k k)).1 ∧ IsRow w v2 (divp p (M rr k) (M k k)).2) (vals 16) xA := hc0 16 (by simp)
      generalize ev16 : vals 16 = uA16 at cA16
      have cA17 : (fun v w => IsRow w v (divp p (M rr k) (M k k)).1) (vals 17) xA := hc0 17 (by simp)
      generalize ev17 : vals 17 = uA17 at cA17
      have cA18 : (fun v w => IsRow w v (divp p (M rr k) (M k k)).2) (vals 18) xA := hc0 18 (by simp)
      generalize ev18 : vals 18 = uA18 at cA18
      have cA19 : (fun v w => IsRow w v (divp p (M rr k) (M k k)).1) (vals 19) xA := hc0 19 (by simp)
      generalize ev19 : vals 19 = uA19 at cA19
      have cA20 : (fun v w => IsRow w v (divp p (M rr k) (M k k)).2) (vals 20) xA := hc0 20 (by simp)
      generalize ev20 : vals 20 = uA20 at cA20
      simp only [List.length_cons, List.length_nil, Nat.zero_add, Nat.reduceAdd, List.replicate, putAll, if_true, Act.put, List.setIfInBounds_toArray, List.set_cons_zero, List.set_cons_succ, e0, e1, e2, e3, e4, e5, e6, e7, e8, e9, e10, e11, e12, e13, e14, ev15, ev16, ev17, ev18, ev19, ev20]
      have hb0 := hM.bel hb hBx
      replace hM := hM.below hBx
      replace hb := hb0
      clear hb0 hBx hc0 hSx e0 e1 e2 e3 e4 e5 e6 e7 e8 e9 e10 e11 e12 e13 e14 ev15 ev16 ev17 ev18 ev19 ev20
      clear hdiv
      have hQd := Lib.hid (show IsRow xA uA19 (divp p (M rr k) (M k k)).1 from cA19)
      obtain ⟨oR, cR, hRe⟩ := (show IsRow xA uA20 (divp p (M rr k) (M k k)).2 from cA20).form
      clear cA15 cA16 cA17 cA18 cA19 cA20
      obtain ⟨Q, hQe⟩ : ∃ Q, (divp p (M rr k) (M k k)).1 = Q := ⟨_, rfl⟩
      have hQP := (divp_Po hpH.out (hpoH.out rr k ⟨by omega, by omega⟩ ⟨by omega, by omega⟩).1 (hpoH.out k k ⟨Nat.le_refl k, hk⟩ ⟨Nat.le_refl k, hk⟩).1 hneH.out).1
      have hQl : Q.length ≤ 100 := by have h8 := divp_quot_le p (M rr k) (M k k); have h9 := (hpoH.out rr k ⟨by omega, by omega⟩ ⟨by omega, by omega⟩).2; rw [hQe] at h8; omega
      rw [hQe] at hQd hQP
      have hQeH := Lib.hid hQe
      have hQPH := Lib.hid hQP
      clear hQe hQP
      obtain ⟨Lr, hLr⟩ : ∃ L, (divp p (M rr k) (M k k)).2.length = L := ⟨_, rfl⟩
      rw [hLr] at hRe
      subst hRe
      have hnx := Lib.hid (show ((z && ((Lr : Int) == 0)) = true ↔ Cl1 p k M (rr + 1)) from Cl1_next hz.out hkr (by rw [← hLr]; simp [List.length_eq_zero_iff]))
      clear hz hLr
      cases z
      all_goals
        go_wp2_with fail
        go_loopw [11] (fun vj wr => ∃ (qq : Nat) (R : Nat → Nat → Value), vj = .int .i64 (qq : Int) ∧ k ≤ qq ∧ qq ≤ n ∧ MatB wr B U g n b c R (rowPart p n k rr qq M) ∧ IsRow wr uA19 Q ∧ Kept B U w wr) (fun vj _ => n - (intOf vj).toNat)
        case atStart => exact ⟨k, R, rfl, Nat.le_refl k, by omega, hM, hQd.out, hb⟩
        case round =>
          clear hM hb hQd
          obtain ⟨qq, R, rfl, hq0, hqn', hM, hQ, hb⟩ := hrel
          by_cases hqn : qq < n
          · have hqI : (qq : Int) < (n : Int) := by omega
            have hml := mkp_length (Q.length + (M k qq).length) (fun i => pmul (cf Q) (cf (M k qq)) i % p)
            have hpl := (hpoH.out k qq ⟨by omega, by omega⟩ ⟨by omega, by omega⟩).2
            have hel := (hpoH.out rr qq ⟨by omega, by omega⟩ ⟨by omega, by omega⟩).2
            have htim := Lib.hid (fun (w2 : World) (va : Value) (h1 : IsRow w2 va Q) (hm : MatB w2 B U g n b c R (rowPart p n k rr qq M)) => times_any va (R k qq) Q (M k qq) p w2 hpH.out h1 (by have := hm.row k qq (by omega) (by omega); rwa [rowPart_k] at this) hQPH.out.md (hpoH.out k qq ⟨by omega, by omega⟩ ⟨by omega, by omega⟩).1.md (by omega) (by omega))
            have hcom := Lib.hid (fun (w2 : World) (va : Value) (hm : MatB w2 B U g n b c R (rowPart p n k rr qq M)) (h1 : IsRow w2 va (mulp p Q (M k qq))) => combine_any (R rr qq) va (M rr qq) (mulp p Q (M k qq)) p (-1) w2 hpH.out (by have := hm.row rr qq (by omega) (by omega); rwa [rowPart_at (Nat.le_refl qq)] at this) h1 (hpoH.out rr qq ⟨by omega, by omega⟩ ⟨by omega, by omega⟩).1.md (mulp_Po (by have := hpH.out.pos; omega) _ _).md (by decide) (by decide) (by omega) (by show (mkp _ _).length ≤ _; omega))
            clear hml hpl hel
            go_upto_region 10 with (fail)
            refine gen_last (w := _) (by kernel_rfl) (by kernel_rfl) (by kernel_rfl) 25 (by kernel_rfl)
                (fun i => ([fun zv _ => zv = .slice (some ⟨g, 0, none⟩) n n, fun zv _ => zv = .int .i64 ((rr : Nat) : Int), fun zv _ => zv = .pointer (some ⟨g, rr, none⟩), fun zv _ => zv = .slice (some ⟨b (rr), 0, none⟩) n (c (rr)), fun zv _ => zv = .int .i64 ((qq : Nat) : Int), fun zv _ => zv = .int .i64 p, fun zv _ => zv = .slice (some ⟨g, 0, none⟩) n n, fun zv _ => zv = .int .i64 ((rr : Nat) : Int), fun zv _ => zv = .pointer (some ⟨g, rr, none⟩), fun zv _ => zv = .slice (some ⟨b (rr), 0, none⟩) n (c (rr)), fun zv _ => zv = .int .i64 ((qq : Nat) : Int), fun zv _ => zv = .pointer (some ⟨b (rr), qq, none⟩), fun zv _ => zv = (R (rr) (qq)), fun zv _ => zv = .int .i64 p, fun v w => IsRow w v (Q), fun zv _ => zv = .slice (some ⟨g, 0, none⟩) n n, fun zv _ => zv = .int .i64 ((k : Nat) : Int), fun zv _ => zv = .pointer (some ⟨g, k, none⟩), fun zv _ => zv = .slice (some ⟨b (k), 0, none⟩) n (c (k)), fun zv _ => zv = .int .i64 ((qq : Nat) : Int), fun zv _ => zv = .pointer (some ⟨b (k), qq, none⟩), fun zv _ => zv = (R (k) (qq)), fun v w => IsRow w v (mulp p Q (M k qq)), fun v w => IsRow w v (addp p (M rr qq) (mulp p Q (M k qq)) (-1)), fun zv _ => zv = .pointer (some ⟨b (rr), qq, none⟩), fun _ _ => True] : List (Value → World → Prop)).getD i (fun _ _ => True))
                (fun w' => True) trivial (fun w1 w2 h hb => trivial) ?_ ?_ ?_
            · intro i v w1 w2 h hb
              rcases i with _|_|_|_|_|_|_|_|_|_|_|_|_|_|_|_|_|_|_|_|_|_|_|_|_|_|i
              · exact h
              · exact h
              · exact h
              · exact h
              · exact h
              · exact h
              · exact h
              · exact h
              · exact h
              · exact h
              · exact h
              · exact h
              · exact h
              · exact h
              · exact (show IsRow w1 v (Q) from h).below hb
              · exact h
              · exact h
              · exact h
              · exact h
              · exact h
              · exact h
              · exact h
              · exact (show IsRow w1 v (mulp p Q (M k qq)) from h).below hb
              · exact (show IsRow w1 v (addp p (M rr qq) (mulp p Q (M k qq)) (-1)) from h).below hb
              · exact h
              · exact h
              · exact h
            · intro i o ho hiZ a w2 hBl hSx hrd hpar
              rcases i with _|_|_|_|_|_|_|_|_|_|_|_|_|_|_|_|_|_|_|_|_|_|_|_|_|_|i
              · obtain rfl := Option.some.inj ho
                refine .inl ⟨rfl, ?_⟩
                have e1 : a.eval (.tmp 1) = .slice (some ⟨g, 0, none⟩) n n := hpar 1 _ (by kernel_rfl) (by kernel_rfl)
                exact wpv_of (wp_move _ _ rfl e1) (fun _ _ => rfl)
              · obtain rfl := Option.some.inj ho
                refine .inl ⟨rfl, ?_⟩
                have e8 : a.eval (.tmp 8) = .int .i64 ((rr : Nat) : Int) := hpar 8 _ (by kernel_rfl) (by kernel_rfl)
                exact wpv_of (wp_move _ _ rfl e8) (fun _ _ => rfl)
              · obtain rfl := Option.some.inj ho
                refine .inl ⟨rfl, ?_⟩
                have e56 : a.eval (.tmp 56) = .slice (some ⟨g, 0, none⟩) n n := hrd 0 _ 56 rfl rfl (by kernel_rfl) (by kernel_rfl)
                have e57 : a.eval (.tmp 57) = .int .i64 ((rr : Nat) : Int) := hrd 1 _ 57 rfl rfl (by kernel_rfl) (by kernel_rfl)
                exact wpv_of (wp_index_row1 77 49 _ _ rfl uMatT sLinT g n n (rr) .i64 e56 e57 hrn) (fun _ _ => rfl)
              · obtain rfl := Option.some.inj ho
                refine .inl ⟨rfl, ?_⟩
                have e58 : a.eval (.tmp 58) = .pointer (some ⟨g, rr, none⟩) := hrd 2 _ 58 rfl rfl (by kernel_rfl) (by kernel_rfl)
                exact wpv_of (wp_load_slice 49 55 _ rfl _ e58 uLinT _ ((hM.below hBl).cell1 hrn)) (fun _ _ => rfl)
              · obtain rfl := Option.some.inj ho
                refine .inl ⟨rfl, ?_⟩
                have e11 : a.eval (.tmp 11) = .int .i64 ((qq : Nat) : Int) := hpar 11 _ (by kernel_rfl) (by kernel_rfl)
                exact wpv_of (wp_move _ _ rfl e11) (fun _ _ => rfl)
              · obtain rfl := Option.some.inj ho
                refine .inl ⟨rfl, ?_⟩
                have e0 : a.eval (.tmp 0) = .int .i64 p := hpar 0 _ (by kernel_rfl) (by kernel_rfl)
                exact wpv_of (wp_move _ _ rfl e0) (fun _ _ => rfl)
              · obtain rfl := Option.some.inj ho
                refine .inl ⟨rfl, ?_⟩
                have e1 : a.eval (.tmp 1) = .slice (some ⟨g, 0, none⟩) n n := hpar 1 _ (by kernel_rfl) (by kernel_rfl)
                exact wpv_of (wp_move _ _ rfl e1) (fun _ _ => rfl)
              · obtain rfl := Option.some.inj ho
                refine .inl ⟨rfl, ?_⟩
                have e8 : a.eval (.tmp 8) = .int .i64 ((rr : Nat) : Int) := hpar 8 _ (by kernel_rfl) (by kernel_rfl)
                exact wpv_of (wp_move _ _ rfl e8) (fun _ _ => rfl)
              · obtain rfl := Option.some.inj ho
                refine .inl ⟨rfl, ?_⟩
                have e62 : a.eval (.tmp 62) = .slice (some ⟨g, 0, none⟩) n n := hrd 6 _ 62 rfl rfl (by kernel_rfl) (by kernel_rfl)
                have e63 : a.eval (.tmp 63) = .int .i64 ((rr : Nat) : Int) := hrd 7 _ 63 rfl rfl (by kernel_rfl) (by kernel_rfl)
                exact wpv_of (wp_index_row1 77 49 _ _ rfl uMatT sLinT g n n (rr) .i64 e62 e63 hrn) (fun _ _ => rfl)
              · obtain rfl := Option.some.inj ho
                refine .inl ⟨rfl, ?_⟩
                have e64 : a.eval (.tmp 64) = .pointer (some ⟨g, rr, none⟩) := hrd 8 _ 64 rfl rfl (by kernel_rfl) (by kernel_rfl)
                exact wpv_of (wp_load_slice 49 55 _ rfl _ e64 uLinT _ ((hM.below hBl).cell1 hrn)) (fun _ _ => rfl)
              · obtain rfl := Option.some.inj ho
                refine .inl ⟨rfl, ?_⟩
                have e11 : a.eval (.tmp 11) = .int .i64 ((qq : Nat) : Int) := hpar 11 _ (by kernel_rfl) (by kernel_rfl)
                exact wpv_of (wp_move _ _ rfl e11) (fun _ _ => rfl)
              · obtain rfl := Option.some.inj ho
                refine .inl ⟨rfl, ?_⟩
                have e65 : a.eval (.tmp 65) = .slice (some ⟨b (rr), 0, none⟩) n (c (rr)) := hrd 9 _ 65 rfl rfl (by kernel_rfl) (by kernel_rfl)
                have e66 : a.eval (.tmp 66) = .int .i64 ((qq : Nat) : Int) := hrd 10 _ 66 rfl rfl (by kernel_rfl) (by kernel_rfl)
                exact wpv_of (wp_index_row1 49 55 _ _ rfl uLinT sEntT (b (rr)) n (c (rr)) (qq) .i64 e65 e66 hqn) (fun _ _ => rfl)
              · obtain rfl := Option.some.inj ho
                refine .inl ⟨rfl, ?_⟩
                have e67 : a.eval (.tmp 67) = .pointer (some ⟨b (rr), qq, none⟩) := hrd 11 _ 67 rfl rfl (by kernel_rfl) (by kernel_rfl)
                exact wpv_of (wp_load_slice 55 2 _ rfl _ e67 uEntT _ ((hM.below hBl).cell2 hrn hqn)) (fun _ _ => rfl)
              · obtain rfl := Option.some.inj ho
                refine .inl ⟨rfl, ?_⟩
                have e0 : a.eval (.tmp 0) = .int .i64 p := hpar 0 _ (by kernel_rfl) (by kernel_rfl)
                exact wpv_of (wp_move _ _ rfl e0) (fun _ _ => rfl)
              · obtain rfl := Option.some.inj ho
                refine .inl ⟨rfl, ?_⟩
                have e9 : a.eval (.tmp 9) = uA19 := hpar 9 _ (by kernel_rfl) (by kernel_rfl)
                have h9 := (hQ).below hBl
                exact wpv_of (wp_move _ _ rfl e9) (fun w' hb => by have h := h9; exact h9.below hb)
              · obtain rfl := Option.some.inj ho
                refine .inl ⟨rfl, ?_⟩
                have e1 : a.eval (.tmp 1) = .slice (some ⟨g, 0, none⟩) n n := hpar 1 _ (by kernel_rfl) (by kernel_rfl)
                exact wpv_of (wp_move _ _ rfl e1) (fun _ _ => rfl)
              · obtain rfl := Option.some.inj ho
                refine .inl ⟨rfl, ?_⟩
                have e2 : a.eval (.tmp 2) = .int .i64 ((k : Nat) : Int) := hpar 2 _ (by kernel_rfl) (by kernel_rfl)
                exact wpv_of (wp_move _ _ rfl e2) (fun _ _ => rfl)
              · obtain rfl := Option.some.inj ho
                refine .inl ⟨rfl, ?_⟩
                have e71 : a.eval (.tmp 71) = .slice (some ⟨g, 0, none⟩) n n := hrd 15 _ 71 rfl rfl (by kernel_rfl) (by kernel_rfl)
                have e72 : a.eval (.tmp 72) = .int .i64 ((k : Nat) : Int) := hrd 16 _ 72 rfl rfl (by kernel_rfl) (by kernel_rfl)
                exact wpv_of (wp_index_row1 77 49 _ _ rfl uMatT sLinT g n n (k) .i64 e71 e72 hk) (fun _ _ => rfl)
              · obtain rfl := Option.some.inj ho
                refine .inl ⟨rfl, ?_⟩
                have e73 : a.eval (.tmp 73) = .pointer (some ⟨g, k, none⟩) := hrd 17 _ 73 rfl rfl (by kernel_rfl) (by kernel_rfl)
                exact wpv_of (wp_load_slice 49 55 _ rfl _ e73 uLinT _ ((hM.below hBl).cell1 hk)) (fun _ _ => rfl)
              · obtain rfl := Option.some.inj ho
                refine .inl ⟨rfl, ?_⟩
                have e11 : a.eval (.tmp 11) = .int .i64 ((qq : Nat) : Int) := hpar 11 _ (by kernel_rfl) (by kernel_rfl)
                exact wpv_of (wp_move _ _ rfl e11) (fun _ _ => rfl)
              · obtain rfl := Option.some.inj ho
                refine .inl ⟨rfl, ?_⟩
                have e74 : a.eval (.tmp 74) = .slice (some ⟨b (k), 0, none⟩) n (c (k)) := hrd 18 _ 74 rfl rfl (by kernel_rfl) (by kernel_rfl)
                have e75 : a.eval (.tmp 75) = .int .i64 ((qq : Nat) : Int) := hrd 19 _ 75 rfl rfl (by kernel_rfl) (by kernel_rfl)
                exact wpv_of (wp_index_row1 49 55 _ _ rfl uLinT sEntT (b (k)) n (c (k)) (qq) .i64 e74 e75 hqn) (fun _ _ => rfl)
              · obtain rfl := Option.some.inj ho
                refine .inl ⟨rfl, ?_⟩
                have e76 : a.eval (.tmp 76) = .pointer (some ⟨b (k), qq, none⟩) := hrd 20 _ 76 rfl rfl (by kernel_rfl) (by kernel_rfl)
                exact wpv_of (wp_load_slice 55 2 _ rfl _ e76 uEntT _ ((hM.below hBl).cell2 hk hqn)) (fun _ _ => rfl)
              · obtain rfl := Option.some.inj ho
                refine .inl ⟨rfl, ?_⟩
                have e69 : a.eval (.tmp 69) = .int .i64 p := hrd 13 _ 69 rfl rfl (by kernel_rfl) (by kernel_rfl)
                have h70 : (fun v w => IsRow w v (Q)) (a.eval (.tmp 70)) w2 := hrd 14 _ 70 rfl rfl (by kernel_rfl) (by kernel_rfl)
                generalize e70 : a.eval (.tmp 70) = v70 at h70
                have e77 : a.eval (.tmp 77) = (R (k) (qq)) := hrd 21 _ 77 rfl rfl (by kernel_rfl) (by kernel_rfl)
                exact wpv_call 38 [.tmp 69, .tmp 70, .tmp 77] _ rfl [.int .i64 p, v70, (R (k) (qq))] (by simp only [List.map_cons, List.map_nil, e69, e70, e77]) Try.call38 (htim.out w2 _ h70 (hM.below hBl))
              · obtain rfl := Option.some.inj ho
                refine .inl ⟨rfl, ?_⟩
                have e61 : a.eval (.tmp 61) = .int .i64 p := hrd 5 _ 61 rfl rfl (by kernel_rfl) (by kernel_rfl)
                have e68 : a.eval (.tmp 68) = (R (rr) (qq)) := hrd 12 _ 68 rfl rfl (by kernel_rfl) (by kernel_rfl)
                have h78 : (fun v w => IsRow w v (mulp p Q (M k qq))) (a.eval (.tmp 78)) w2 := hrd 22 _ 78 rfl rfl (by kernel_rfl) (by kernel_rfl)
                generalize e78 : a.eval (.tmp 78) = v78 at h78
                exact wpv_call 61 [.tmp 61, .tmp 68, .tmp 78, .const (.int .i64 (-1))] _ rfl [.int .i64 p, (R (rr) (qq)), v78, .int .i64 (-1)] (by simp only [List.map_cons, List.map_nil, e61, e68, e78, eval_const]) Try.call61 (hcom.out w2 _ (hM.below hBl) h78)
              · obtain rfl := Option.some.inj ho
                refine .inl ⟨rfl, ?_⟩
                have e59 : a.eval (.tmp 59) = .slice (some ⟨b (rr), 0, none⟩) n (c (rr)) := hrd 3 _ 59 rfl rfl (by kernel_rfl) (by kernel_rfl)
                have e60 : a.eval (.tmp 60) = .int .i64 ((qq : Nat) : Int) := hrd 4 _ 60 rfl rfl (by kernel_rfl) (by kernel_rfl)
                exact wpv_of (wp_index_row1 49 55 _ _ rfl uLinT sEntT (b (rr)) n (c (rr)) (qq) .i64 e59 e60 hqn) (fun _ _ => rfl)
              · obtain rfl := Option.some.inj ho
                exact absurd rfl hiZ
              · simp at ho
            intro oZ hoZ vals xB hBx hSx hc0
            obtain rfl := Option.some.inj hoZ
            clear hoZ
            have e0 : vals 0 = .slice (some ⟨g, 0, none⟩) n n := hc0 0 (by simp) (by decide)
            have e1 : vals 1 = .int .i64 ((rr : Nat) : Int) := hc0 1 (by simp) (by decide)
            have e2 : vals 2 = .pointer (some ⟨g, rr, none⟩) := hc0 2 (by simp) (by decide)
            have e3 : vals 3 = .slice (some ⟨b (rr), 0, none⟩) n (c (rr)) := hc0 3 (by simp) (by decide)
            have e4 : vals 4 = .int .i64 ((qq : Nat) : Int) := hc0 4 (by simp) (by decide)
            have e5 : vals 5 = .int .i64 p := hc0 5 (by simp) (by decide)
            have e6 : vals 6 = .slice (some ⟨g, 0, none⟩) n n := hc0 6 (by simp) (by decide)
            have e7 : vals 7 = .int .i64 ((rr : Nat) : Int) := hc0 7 (by simp) (by decide)
            have e8 : vals 8 = .pointer (some ⟨g, rr, none⟩) := hc0 8 (by simp) (by decide)
            have e9 : vals 9 = .slice (some ⟨b (rr), 0, none⟩) n (c (rr)) := hc0 9 (by simp) (by decide)
            have e10 : vals 10 = .int .i64 ((qq : Nat) : Int) := hc0 10 (by simp) (by decide)
            have e11 : vals 11 = .pointer (some ⟨b (rr), qq, none⟩) := hc0 11 (by simp) (by decide)
            have e12 : vals 12 = (R (rr) (qq)) := hc0 12 (by simp) (by decide)
            have e13 : vals 13 = .int .i64 p := hc0 13 (by simp) (by decide)
            have cB14 : (fun v w => IsRow w v (Q)) (vals 14) xB := hc0 14 (by simp) (by decide)
            generalize ev14 : vals 14 = uB14 at cB14
            have e15 : vals 15 = .slice (some ⟨g, 0, none⟩) n n := hc0 15 (by simp) (by decide)
            have e16 : vals 16 = .int .i64 ((k : Nat) : Int) := hc0 16 (by simp) (by decide)
            have e17 : vals 17 = .pointer (some ⟨g, k, none⟩) := hc0 17 (by simp) (by decide)
            have e18 : vals 18 = .slice (some ⟨b (k), 0, none⟩) n (c (k)) := hc0 18 (by simp) (by decide)
            have e19 : vals 19 = .int .i64 ((qq : Nat) : Int) := hc0 19 (by simp) (by decide)
            have e20 : vals 20 = .pointer (some ⟨b (k), qq, none⟩) := hc0 20 (by simp) (by decide)
            have e21 : vals 21 = (R (k) (qq)) := hc0 21 (by simp) (by decide)
            have cB22 : (fun v w => IsRow w v (mulp p Q (M k qq))) (vals 22) xB := hc0 22 (by simp) (by decide)
            generalize ev22 : vals 22 = uB22 at cB22
            have cB23 : (fun v w => IsRow w v (addp p (M rr qq) (mulp p Q (M k qq)) (-1))) (vals 23) xB := hc0 23 (by simp) (by decide)
            generalize ev23 : vals 23 = uB23 at cB23
            have e24 : vals 24 = .pointer (some ⟨b (rr), qq, none⟩) := hc0 24 (by simp) (by decide)
            refine ⟨rfl, ?_⟩
            simp only [List.length_cons, List.length_nil, Nat.zero_add, Nat.reduceAdd, List.replicate, seenAll, Bool.false_eq_true, if_false, putAll, if_true, Act.put, List.setIfInBounds_toArray, List.set_cons_zero, List.set_cons_succ, e0, e1, e2, e3, e4, e5, e6, e7, e8, e9, e10, e11, e12, e13, ev14, e15, e16, e17, e18, e19, e20, e21, ev22, ev23, e24]
            have hb0 := hM.bel hb hBx
            replace hM := hM.below hBx
            replace hQ := hQ.below hBx
            replace hb := hb0
            clear hb0 hBx hc0 hSx e0 e1 e2 e3 e4 e5 e6 e7 e8 e9 e10 e11 e12 e13 ev14 e15 e16 e17 e18 e19 e20 e21 ev22 ev23 e24
            have hU := show IsRow xB uB23 (addp p (M rr qq) (mulp p Q (M k qq)) (-1)) from cB23
            clear cB14 cB22 cB23 htim hcom
            refine wp_store_arrN 55 _ _ rfl (b rr) qq rfl uB23 rfl (c rr) (R rr) _ (hM.inn rr hrn) (by have := (hM.cap rr hrn).1; omega) sEntT (slice_one hU.isSlice) ?_
            have hM3 := Lib.hid ((hM.store hrn hqn hU).congr (fun x y hx hy => (congrFun (congrFun (rowPart_next hkr hrn hq0 hqn (by rw [hQeH.out])) x) y)))
            have hQ3 := Lib.hid (hQ.upd (hM.inn rr hrn) (fun q _ => hM.sl rr q) (fun q hq => setRow_other xB (b rr) q (arr (c rr) fun q => if q = qq then uB23 else R rr q) hq))
            have hb3 := Lib.hid (hb.setRow (hM.hb rr hrn) (hM.upb rr hrn) (hM.inn rr hrn) (fun q _ => hM.sl rr q) (arr (c rr) fun q => if q = qq then uB23 else R rr q))
            clear hM hU hQ hb
            go_wp2_with fail
            go_roundw
            case rel => exact ⟨qq + 1, _, by go_num, by omega, by omega, hM3.out, hQ3.out, hb3.out⟩
            case measure => simp [intOf] <;> omega
          · have eqn : n = qq := by omega
            subst eqn
            clear hQ hQPH hQl hQeH
            go_wp2_with fail
            go_roundw
            case rel => exact ⟨_, rr + 1, R, rfl, by go_num, by omega, by omega, hnx, hM.congr (fun x y hx hy => rowPart_line hx hy), hb⟩
            case measure => simp [intOf] <;> omega
    · have ern : n = rr := by omega
      have hzn := Lib.hid (ern ▸ hz.out : z = true ↔ Cl1 p k M n)
      clear hz
      subst ern
      generalize z = z0 at *
      have hM2 := hM.congr (M' := M1) (fun i j hi hj => by rw [rowPart_all hi hj, hM1H.out])
      clear hM
      go_wp2_with fail
      go_loopw [7, 12] (fun vz vi wr => ∃ (z : Bool) (rr : Nat) (R : Nat → Nat → Value), vz = .bool z ∧ vi = .int .i64 (rr : Int) ∧ k < rr ∧ rr ≤ n ∧ Hid (z = true ↔ (z0 = true ∧ Cl2 p k M1 rr)) ∧ MatB wr B U g n b c R (colPart p n k rr k M1) ∧ Kept B U w wr) (fun _ vi _ => n - (intOf vi).toNat)
      case atStart => exact ⟨z0, k + 1, R, rfl, by go_num, by omega, by omega, Lib.hid ⟨fun h => ⟨h, fun i h1 h2 => absurd h1 (by omega)⟩, fun h => h.1⟩, hM2.congr (fun i j _ _ => colPart_start.symm), hb⟩
      case round =>
        clear hM2 hb
        obtain ⟨z, rr, R, rfl, rfl, hkr, hrn', hz, hM, hb⟩ := hrel
        by_cases hrn : rr < n
        · skip
          have hkI : (k : Int) < (n : Int) := by omega
          have hrI : (rr : Int) < (n : Int) := by omega
          have hdiv := Lib.hid (fun (w2 : World) (hm : MatB w2 B U g n b c R (colPart p n k rr k M1)) => divide_any (R k rr) (R k k) (M1 k rr) (M1 k k) p w2 hpH.out (by have := hm.row k rr (by omega) (by omega); rwa [colPart_at (Nat.le_refl k)] at this) (by have := hm.row k k (by omega) (by omega); rwa [colPart_k] at this)
            (hpo2H.out k rr ⟨by omega, by omega⟩ ⟨by omega, by omega⟩).1 (hpo2H.out k k ⟨Nat.le_refl k, hk⟩ ⟨Nat.le_refl k, hk⟩).1 hne1H.out (by have := (hpo2H.out k rr ⟨by omega, by omega⟩ ⟨by omega, by omega⟩).2; omega) (by have := (hpo2H.out k k ⟨Nat.le_refl k, hk⟩ ⟨Nat.le_refl k, hk⟩).2; omega))
          go_upto_region 14 with (fail)
          refine gen_guard (w := _) (by kernel_rfl) (by kernel_rfl) (by kernel_rfl)
              (fun i => ([fun zv _ => zv = .int .i64 p, fun zv _ => zv = .slice (some ⟨g, 0, none⟩) n n, fun zv _ => zv = .int .i64 ((k : Nat) : Int), fun zv _ => zv = .pointer (some ⟨g, k, none⟩), fun zv _ => zv = .slice (some ⟨b (k), 0, none⟩) n (c (k)), fun zv _ => zv = .int .i64 ((rr : Nat) : Int), fun zv _ => zv = .pointer (some ⟨b (k), rr, none⟩), fun zv _ => zv = (R (k) (rr)), fun zv _ => zv = .slice (some ⟨g, 0, none⟩) n n, fun zv _ => zv = .int .i64 ((k : Nat) : Int), fun zv _ => zv = .pointer (some ⟨g, k, none⟩), fun zv _ => zv = .slice (some ⟨b (k), 0, none⟩) n (c (k)), fun zv _ => zv = .int .i64 ((k : Nat) : Int), fun zv _ => zv = .pointer (some ⟨b (k), k, none⟩), fun zv _ => zv = (R (k) (k)), fun v w => ∃ v1 v2, v = .tuple #[v1, v2] ∧ IsRow w v1 (divp p (M1 k rr) (M1 k k)).1 ∧ IsRow w v2 (divp p (M1 k rr) (M1 k k)).2, fun v w => ∃ v1 v2, v = .tuple #[v1, v2] ∧ IsRow w v1 (divp p (M1 k rr) (M1 k k)).1 ∧ IsRow w v2 (divp p (M1 k rr) (M1 k k)).2, fun v w => IsRow w v (divp p (M1 k rr) (M1 k k)).1, fun v w => IsRow w v (divp p (M1 k rr) (M1 k k)).2, fun v w => IsRow w v (divp p (M1 k rr) (M1 k k)).1, fun v w => IsRow w v (divp p (M1 k rr) (M1 k k)).2] : List (Value → World → Prop)).getD i (fun _ _ => True))
              (fun w' => True) trivial (fun w1 w2 h hb => trivial) ?_ ?_ ?_
          · intro i v w1 w2 h hb
            rcases i with _|_|_|_|_|_|_|_|_|_|_|_|_|_|_|_|_|_|_|_|_|i
            · exact h
            · exact h
            · exact h
            · exact h
            · exact h
            · exact h
            · exact h
            · exact h
            · exact h
            · exact h
            · exact h
            · exact h
            · exact h
            · exact h
            · exact h
            · obtain ⟨v1, v2, e, h1, h2⟩ := h; exact ⟨v1, v2, e, h1.below hb, h2.below hb⟩
            · obtain ⟨v1, v2, e, h1, h2⟩ := h; exact ⟨v1, v2, e, h1.below hb, h2.below hb⟩
            · exact (show IsRow w1 v (divp p (M1 k rr) (M1 k k)).1 from h).below hb
            · exact (show IsRow w1 v (divp p (M1 k rr) (M1 k k)).2 from h).below hb
            · exact (show IsRow w1 v (divp p (M1 k rr) (M1 k k)).1 from h).below hb
            · exact (show IsRow w1 v (divp p (M1 k rr) (M1 k k)).2 from h).below hb
            · exact h
          · intro i o ho a w2 hBl hSx hrd hpar
            rcases i with _|_|_|_|_|_|_|_|_|_|_|_|_|_|_|_|_|_|_|_|_|i
            · obtain rfl := Option.some.inj ho
              refine .inl ⟨rfl, ?_⟩
              have e0 : a.eval (.tmp 0) = .int .i64 p := hpar 0 _ (by kernel_rfl) (by kernel_rfl)
              exact wpv_of (wp_move _ _ rfl e0) (fun _ _ => rfl)
            · obtain rfl := Option.some.inj ho
              refine .inl ⟨rfl, ?_⟩
              have e1 : a.eval (.tmp 1) = .slice (some ⟨g, 0, none⟩) n n := hpar 1 _ (by kernel_rfl) (by kernel_rfl)
              exact wpv_of (wp_move _ _ rfl e1) (fun _ _ => rfl)
            · obtain rfl := Option.some.inj ho
              refine .inl ⟨rfl, ?_⟩
              have e2 : a.eval (.tmp 2) = .int .i64 ((k : Nat) : Int) := hpar 2 _ (by kernel_rfl) (by kernel_rfl)
              exact wpv_of (wp_move _ _ rfl e2) (fun _ _ => rfl)
            · obtain rfl := Option.some.inj ho
              refine .inl ⟨rfl, ?_⟩
              have e91 : a.eval (.tmp 91) = .slice (some ⟨g, 0, none⟩) n n := hrd 1 _ 91 rfl rfl (by kernel_rfl) (by kernel_rfl)
              have e92 : a.eval (.tmp 92) = .int .i64 ((k : Nat) : Int) := hrd 2 _ 92 rfl rfl (by kernel_rfl) (by kernel_rfl)
              exact wpv_of (wp_index_row1 77 49 _ _ rfl uMatT sLinT g n n (k) .i64 e91 e92 hk) (fun _ _ => rfl)
            · obtain rfl := Option.some.inj ho
              refine .inl ⟨rfl, ?_⟩
              have e93 : a.eval (.tmp 93) = .pointer (some ⟨g, k, none⟩) := hrd 3 _ 93 rfl rfl (by kernel_rfl) (by kernel_rfl)
              exact wpv_of (wp_load_slice 49 55 _ rfl _ e93 uLinT _ ((hM.below hBl).cell1 hk)) (fun _ _ => rfl)
            · obtain rfl := Option.some.inj ho
              refine .inl ⟨rfl, ?_⟩
              have e12 : a.eval (.tmp 12) = .int .i64 ((rr : Nat) : Int) := hpar 12 _ (by kernel_rfl) (by kernel_rfl)
              exact wpv_of (wp_move _ _ rfl e12) (fun _ _ => rfl)
            · obtain rfl := Option.some.inj ho
              refine .inl ⟨rfl, ?_⟩
              have e94 : a.eval (.tmp 94) = .slice (some ⟨b (k), 0, none⟩) n (c (k)) := hrd 4 _ 94 rfl rfl (by kernel_rfl) (by kernel_rfl)
              have e95 : a.eval (.tmp 95) = .int .i64 ((rr : Nat) : Int) := hrd 5 _ 95 rfl rfl (by kernel_rfl) (by kernel_rfl)
              exact wpv_of (wp_index_row1 49 55 _ _ rfl uLinT sEntT (b (k)) n (c (k)) (rr) .i64 e94 e95 hrn) (fun _ _ => rfl)
            · obtain rfl := Option.some.inj ho
              refine .inl ⟨rfl, ?_⟩
              have e96 : a.eval (.tmp 96) = .pointer (some ⟨b (k), rr, none⟩) := hrd 6 _ 96 rfl rfl (by kernel_rfl) (by kernel_rfl)
              exact wpv_of (wp_load_slice 55 2 _ rfl _ e96 uEntT _ ((hM.below hBl).cell2 hk hrn)) (fun _ _ => rfl)
            · obtain rfl := Option.some.inj ho
              refine .inl ⟨rfl, ?_⟩
              have e1 : a.eval (.tmp 1) = .slice (some ⟨g, 0, none⟩) n n := hpar 1 _ (by kernel_rfl) (by kernel_rfl)
              exact wpv_of (wp_move _ _ rfl e1) (fun _ _ => rfl)
            · obtain rfl := Option.some.inj ho
              refine .inl ⟨rfl, ?_⟩
              have e2 : a.eval (.tmp 2) = .int .i64 ((k : Nat) : Int) := hpar 2 _ (by kernel_rfl) (by kernel_rfl)
              exact wpv_of (wp_move _ _ rfl e2) (fun _ _ => rfl)
            · obtain rfl := Option.some.inj ho
              refine .inl ⟨rfl, ?_⟩
              have e98 : a.eval (.tmp 98) = .slice (some ⟨g, 0, none⟩) n n := hrd 8 _ 98 rfl rfl (by kernel_rfl) (by kernel_rfl)
              have e99 : a.eval (.tmp 99) = .int .i64 ((k : Nat) : Int) := hrd 9 _ 99 rfl rfl (by kernel_rfl) (by kernel_rfl)
              exact wpv_of (wp_index_row1 77 49 _ _ rfl uMatT sLinT g n n (k) .i64 e98 e99 hk) (fun _ _ => rfl)
            · obtain rfl := Option.some.inj ho
              refine .inl ⟨rfl, ?_⟩
              have e100 : a.eval (.tmp 100) = .pointer (some ⟨g, k, none⟩) := hrd 10 _ 100 rfl rfl (by kernel_rfl) (by kernel_rfl)
              exact wpv_of (wp_load_slice 49 55 _ rfl _ e100 uLinT _ ((hM.below hBl).cell1 hk)) (fun _ _ => rfl)
            · obtain rfl := Option.some.inj ho
              refine .inl ⟨rfl, ?_⟩
              have e2 : a.eval (.tmp 2) = .int .i64 ((k : Nat) : Int) := hpar 2 _ (by kernel_rfl) (by kernel_rfl)
              exact wpv_of (wp_move _ _ rfl e2) (fun _ _ => rfl)
            · obtain rfl := Option.some.inj ho
              refine .inl ⟨rfl, ?_⟩
              have e101 : a.eval (.tmp 101) = .slice (some ⟨b (k), 0, none⟩) n (c (k)) := hrd 11 _ 101 rfl rfl (by kernel_rfl) (by kernel_rfl)
              have e102 : a.eval (.tmp 102) = .int .i64 ((k : Nat) : Int) := hrd 12 _ 102 rfl rfl (by kernel_rfl) (by kernel_rfl)
              exact wpv_of (wp_index_row1 49 55 _ _ rfl uLinT sEntT (b (k)) n (c (k)) (k) .i64 e101 e102 hk) (fun _ _ => rfl)
            · obtain rfl := Option.some.inj ho
              refine .inl ⟨rfl, ?_⟩
              have e103 : a.eval (.tmp 103) = .pointer (some ⟨b (k), k, none⟩) := hrd 13 _ 103 rfl rfl (by kernel_rfl) (by kernel_rfl)
              exact wpv_of (wp_load_slice 55 2 _ rfl _ e103 uEntT _ ((hM.below hBl).cell2 hk hk)) (fun _ _ => rfl)
            · obtain rfl := Option.some.inj ho
              refine .inl ⟨rfl, ?_⟩
              have e90 : a.eval (.tmp 90) = .int .i64 p := hrd 0 _ 90 rfl rfl (by kernel_rfl) (by kernel_rfl)
              have e97 : a.eval (.tmp 97) = (R (k) (rr)) := hrd 7 _ 97 rfl rfl (by kernel_rfl) (by kernel_rfl)
              have e104 : a.eval (.tmp 104) = (R (k) (k)) := hrd 14 _ 104 rfl rfl (by kernel_rfl) (by kernel_rfl)
              exact wpv_call 87 [.tmp 90, .tmp 97, .tmp 104] _ rfl [.int .i64 p, (R (k) (rr)), (R (k) (k))] (by simp only [List.map_cons, List.map_nil, e90, e97, e104]) Try.call87 ((hdiv.out w2 (hM.below hBl)).mono fun _ _ ⟨v1, v2, h1, h2, h3, h4⟩ => ⟨_, h1, ⟨v1, v2, rfl, h2, h3⟩, h4⟩)
            · obtain rfl := Option.some.inj ho
              refine .inl ⟨rfl, ?_⟩
              have h105 : (fun v w => ∃ v1 v2, v = .tuple #[v1, v2] ∧ IsRow w v1 (divp p (M1 k rr) (M1 k k)).1 ∧ IsRow w v2 (divp p (M1 k rr) (M1 k k)).2) (a.eval (.tmp 105)) w2 := hrd 15 _ 105 rfl rfl (by kernel_rfl) (by kernel_rfl)
              generalize e105 : a.eval (.tmp 105) = v105 at h105
              exact wpv_of (wp_move _ _ rfl e105) (fun w' hb => by have h := h105; obtain ⟨v1, v2, e, h1, h2⟩ := h; exact ⟨v1, v2, e, h1.below hb, h2.below hb⟩)
            · obtain rfl := Option.some.inj ho
              refine .inl ⟨rfl, ?_⟩
              have h89 : (fun v w => ∃ v1 v2, v = .tuple #[v1, v2] ∧ IsRow w v1 (divp p (M1 k rr) (M1 k k)).1 ∧ IsRow w v2 (divp p (M1 k rr) (M1 k k)).2) (a.eval (.tmp 89)) w2 := hrd 16 _ 89 rfl rfl (by kernel_rfl) (by kernel_rfl)
              generalize e89 : a.eval (.tmp 89) = v89 at h89
              obtain ⟨z1, z2, rfl, hz1, hz2⟩ := h89
              exact wpv_of (wp_extract _ 0 #[z1, z2] _ rfl e89 rfl) (fun w' hb => hz1.below hb)
            · obtain rfl := Option.some.inj ho
              refine .inl ⟨rfl, ?_⟩
              have h89 : (fun v w => ∃ v1 v2, v = .tuple #[v1, v2] ∧ IsRow w v1 (divp p (M1 k rr) (M1 k k)).1 ∧ IsRow w v2 (divp p (M1 k rr) (M1 k k)).2) (a.eval (.tmp 89)) w2 := hrd 16 _ 89 rfl rfl (by kernel_rfl) (by kernel_rfl)
              generalize e89 : a.eval (.tmp 89) = v89 at h89
              obtain ⟨z1, z2, rfl, hz1, hz2⟩ := h89
              exact wpv_of (wp_extract _ 1 #[z1, z2] _ rfl e89 rfl) (fun w' hb => hz2.below hb)
            · obtain rfl := Option.some.inj ho
              refine .inl ⟨rfl, ?_⟩
              have h106 : (fun v w => IsRow w v (divp p (M1 k rr) (M1 k k)).1) (a.eval (.tmp 106)) w2 := hrd 17 _ 106 rfl rfl (by kernel_rfl) (by kernel_rfl)
              generalize e106 : a.eval (.tmp 106) = v106 at h106
              exact wpv_of (wp_assign _ _ rfl e106) (fun w' hb => by have h := h106; exact (show IsRow w2 v106 (divp p (M1 k rr) (M1 k k)).1 from h).below hb)
            · obtain rfl := Option.some.inj ho
              refine .inl ⟨rfl, ?_⟩
              have h107 : (fun v w => IsRow w v (divp p (M1 k rr) (M1 k k)).2) (a.eval (.tmp 107)) w2 := hrd 18 _ 107 rfl rfl (by kernel_rfl) (by kernel_rfl)
              generalize e107 : a.eval (.tmp 107) = v107 at h107
              exact wpv_of (wp_assign _ _ rfl e107) (fun w' hb => by have h := h107; exact (show IsRow w2 v107 (divp p (M1 k rr) (M1 k k)).2 from h).below hb)
            · simp at ho
          intro vals xA hBx hSx hc0
          have e0 : vals 0 = .int .i64 p := hc0 0 (by simp)
          have e1 : vals 1 = .slice (some ⟨g, 0, none⟩) n n := hc0 1 (by simp)
          have e2 : vals 2 = .int .i64 ((k : Nat) : Int) := hc0 2 (by simp)
          have e3 : vals 3 = .pointer (some ⟨g, k, none⟩) := hc0 3 (by simp)
          have e4 : vals 4 = .slice (some ⟨b (k), 0, none⟩) n (c (k)) := hc0 4 (by simp)
          have e5 : vals 5 = .int .i64 ((rr : Nat) : Int) := hc0 5 (by simp)
          have e6 : vals 6 = .pointer (some ⟨b (k), rr, none⟩) := hc0 6 (by simp)
          have e7 : vals 7 = (R (k) (rr)) := hc0 7 (by simp)
          have e8 : vals 8 = .slice (some ⟨g, 0, none⟩) n n := hc0 8 (by simp)
          have e9 : vals 9 = .int .i64 ((k : Nat) : Int) := hc0 9 (by simp)
          have e10 : vals 10 = .pointer (some ⟨g, k, none⟩) := hc0 10 (by simp)
          have e11 : vals 11 = .slice (some ⟨b (k), 0, none⟩) n (c (k)) := hc0 11 (by simp)
          have e12 : vals 12 = .int .i64 ((k : Nat) : Int) := hc0 12 (by simp)
          have e13 : vals 13 = .pointer (some ⟨b (k), k, none⟩) := hc0 13 (by simp)
          have e14 : vals 14 = (R (k) (k)) := hc0 14 (by simp)
          have cA15 : (fun v w => ∃ v1 v2, v = .tuple #[v1, v2] ∧ IsRow w v1 (divp p (M1 k rr) (M1 k k)).1 ∧ IsRow w v2 (divp p (M1 k rr) (M1 k k)).2) (vals 15) xA := hc0 15 (by simp)
          generalize ev15 : vals 15 = uA15 at cA15
          have cA16 : (fun v w => ∃ v1 v2, v = .tuple #[v1, v2] ∧ IsRow w v1 (divp p (M1 k rr) (M1 k k)).1 ∧ IsRow w v2 (divp p (M1 k rr) (M1 k k)).2) (vals 16) xA := hc0 16 (by simp)
          generalize ev16 : vals 16 = uA16 at cA16
          have cA17 : (fun v w => IsRow w v (divp p (M1 k rr) (M1 k k)).1) (vals 17) xA := hc0 17 (by simp)
          generalize ev17 : vals 17 = uA17 at cA17
          have cA18 : (fun v w => IsRow w v (divp p (M1 k rr) (M1 k k)).2) (vals 18) xA := hc0 18 (by simp)
          generalize ev18 : vals 18 = uA18 at cA18
          have cA19 : (fun v w => IsRow w v (divp p (M1 k rr) (M1 k k)).1) (vals 19) xA := hc0 19 (by simp)
          generalize ev19 : vals 19 = uA19 at cA19
          have cA20 : (fun v w => IsRow w v (divp p (M1 k rr) (M1 k k)).2) (vals 20) xA := hc0 20 (by simp)
          generalize ev20 : vals 20 = uA20 at cA20
          simp only [List.length_cons, List.length_nil, Nat.zero_add, Nat.reduceAdd, List.replicate, putAll, if_true, Act.put, List.setIfInBounds_toArray, List.set_cons_zero, List.set_cons_succ, e0, e1, e2, e3, e4, e5, e6, e7, e8, e9, e10, e11, e12, e13, e14, ev15, ev16, ev17, ev18, ev19, ev20]
          have hb0 := hM.bel hb hBx
          replace hM := hM.below hBx
          replace hb := hb0
          clear hb0 hBx hc0 hSx e0 e1 e2 e3 e4 e5 e6 e7 e8 e9 e10 e11 e12 e13 e14 ev15 ev16 ev17 ev18 ev19 ev20
          clear hdiv
          have hQd := Lib.hid (show IsRow xA uA19 (divp p (M1 k rr) (M1 k k)).1 from cA19)
          obtain ⟨oR, cR, hRe⟩ := (show IsRow xA uA20 (divp p (M1 k rr) (M1 k k)).2 from cA20).form
          clear cA15 cA16 cA17 cA18 cA19 cA20
          obtain ⟨Q, hQe⟩ : ∃ Q, (divp p (M1 k rr) (M1 k k)).1 = Q := ⟨_, rfl⟩
          have hQP := (divp_Po hpH.out (hpo2H.out k rr ⟨by omega, by omega⟩ ⟨by omega, by omega⟩).1 (hpo2H.out k k ⟨Nat.le_refl k, hk⟩ ⟨Nat.le_refl k, hk⟩).1 hne1H.out).1
          have hQl : Q.length ≤ 100 := by have h8 := divp_quot_le p (M1 k rr) (M1 k k); have h9 := (hpo2H.out k rr ⟨by omega, by omega⟩ ⟨by omega, by omega⟩).2; rw [hQe] at h8; omega
          rw [hQe] at hQd hQP
          have hQeH := Lib.hid hQe
          have hQPH := Lib.hid hQP
          clear hQe hQP
          obtain ⟨Lr, hLr⟩ : ∃ L, (divp p (M1 k rr) (M1 k k)).2.length = L := ⟨_, rfl⟩
          rw [hLr] at hRe
          subst hRe
          have hnx := Lib.hid (show ((z && ((Lr : Int) == 0)) = true ↔ z0 = true ∧ Cl2 p k M1 (rr + 1)) from Cl2_next hz.out hkr (by rw [← hLr]; simp [List.length_eq_zero_iff]))
          clear hz hLr
          cases z
          all_goals
            go_wp2_with fail
            go_loopw [15] (fun vj wr => ∃ (qq : Nat) (R : Nat → Nat → Value), vj = .int .i64 (qq : Int) ∧ k ≤ qq ∧ qq ≤ n ∧ MatB wr B U g n b c R (colPart p n k rr qq M1) ∧ IsRow wr uA19 Q ∧ Kept B U w wr) (fun vj _ => n - (intOf vj).toNat)
            case atStart => exact ⟨k, R, rfl, Nat.le_refl k, by omega, hM, hQd.out, hb⟩
            case round =>
              clear hM hb hQd
              obtain ⟨qq, R, rfl, hq0, hqn', hM, hQ, hb⟩ := hrel
              by_cases hqn : qq < n
              · have hqI : (qq : Int) < (n : Int) := by omega
                have hml := mkp_length (Q.length + (M1 qq k).length) (fun i => pmul (cf Q) (cf (M1 qq k)) i % p)
                have hpl := (hpo2H.out qq k ⟨by omega, by omega⟩ ⟨by omega, by omega⟩).2
                have hel := (hpo2H.out qq rr ⟨by omega, by omega⟩ ⟨by omega, by omega⟩).2
                have htim := Lib.hid (fun (w2 : World) (va : Value) (h1 : IsRow w2 va Q) (hm : MatB w2 B U g n b c R (colPart p n k rr qq M1)) => times_any va (R qq k) Q (M1 qq k) p w2 hpH.out h1 (by have := hm.row qq k (by omega) (by omega); rwa [colPart_k] at this) hQPH.out.md (hpo2H.out qq k ⟨by omega, by omega⟩ ⟨by omega, by omega⟩).1.md (by omega) (by omega))
                have hcom := Lib.hid (fun (w2 : World) (va : Value) (hm : MatB w2 B U g n b c R (colPart p n k rr qq M1)) (h1 : IsRow w2 va (mulp p Q (M1 qq k))) => combine_any (R qq rr) va (M1 qq rr) (mulp p Q (M1 qq k)) p (-1) w2 hpH.out (by have := hm.row qq rr (by omega) (by omega); rwa [colPart_at (Nat.le_refl qq)] at this) h1 (hpo2H.out qq rr ⟨by omega, by omega⟩ ⟨by omega, by omega⟩).1.md (mulp_Po (by have := hpH.out.pos; omega) _ _).md (by decide) (by decide) (by omega) (by show (mkp _ _).length ≤ _; omega))
                clear hml hpl hel
                go_upto_region 19 with (fail)
                refine gen_last (w := _) (by kernel_rfl) (by kernel_rfl) (by kernel_rfl) 25 (by kernel_rfl)
                    (fun i => ([fun zv _ => zv = .slice (some ⟨g, 0, none⟩) n n, fun zv _ => zv = .int .i64 ((qq : Nat) : Int), fun zv _ => zv = .pointer (some ⟨g, qq, none⟩), fun zv _ => zv = .slice (some ⟨b (qq), 0, none⟩) n (c (qq)), fun zv _ => zv = .int .i64 ((rr : Nat) : Int), fun zv _ => zv = .int .i64 p, fun zv _ => zv = .slice (some ⟨g, 0, none⟩) n n, fun zv _ => zv = .int .i64 ((qq : Nat) : Int), fun zv _ => zv = .pointer (some ⟨g, qq, none⟩), fun zv _ => zv = .slice (some ⟨b (qq), 0, none⟩) n (c (qq)), fun zv _ => zv = .int .i64 ((rr : Nat) : Int), fun zv _ => zv = .pointer (some ⟨b (qq), rr, none⟩), fun zv _ => zv = (R (qq) (rr)), fun zv _ => zv = .int .i64 p, fun v w => IsRow w v (Q), fun zv _ => zv = .slice (some ⟨g, 0, none⟩) n n, fun zv _ => zv = .int .i64 ((qq : Nat) : Int), fun zv _ => zv = .pointer (some ⟨g, qq, none⟩), fun zv _ => zv = .slice (some ⟨b (qq), 0, none⟩) n (c (qq)), fun zv _ => zv = .int .i64 ((k : Nat) : Int), fun zv _ => zv = .pointer (some ⟨b (qq), k, none⟩), fun zv _ => zv = (R (qq) (k)), fun v w => IsRow w v (mulp p Q (M1 qq k)), fun v w => IsRow w v (addp p (M1 qq rr) (mulp p Q (M1 qq k)) (-1)), fun zv _ => zv = .pointer (some ⟨b (qq), rr, none⟩), fun _ _ => True] : List (Value → World → Prop)).getD i (fun _ _ => True))
                    (fun w' => True) trivial (fun w1 w2 h hb => trivial) ?_ ?_ ?_
                · intro i v w1 w2 h hb
                  rcases i with _|_|_|_|_|_|_|_|_|_|_|_|_|_|_|_|_|_|_|_|_|_|_|_|_|_|i
                  · exact h
                  · exact h
                  · exact h
                  · exact h
                  · exact h
                  · exact h
                  · exact h
                  · exact h
                  · exact h
                  · exact h
                  · exact h
                  · exact h
                  · exact h
                  · exact h
                  · exact (show IsRow w1 v (Q) from h).below hb
                  · exact h
                  · exact h
                  · exact h
                  · exact h
                  · exact h
                  · exact h
                  · exact h
                  · exact (show IsRow w1 v (mulp p Q (M1 qq k)) from h).below hb
                  · exact (show IsRow w1 v (addp p (M1 qq rr) (mulp p Q (M1 qq k)) (-1)) from h).below hb
                  · exact h
                  · exact h
                  · exact h
                · intro i o ho hiZ a w2 hBl hSx hrd hpar
                  rcases i with _|_|_|_|_|_|_|_|_|_|_|_|_|_|_|_|_|_|_|_|_|_|_|_|_|_|i
                  · obtain rfl := Option.some.inj ho
                    refine .inl ⟨rfl, ?_⟩
                    have e1 : a.eval (.tmp 1) = .slice (some ⟨g, 0, none⟩) n n := hpar 1 _ (by kernel_rfl) (by kernel_rfl)
                    exact wpv_of (wp_move _ _ rfl e1) (fun _ _ => rfl)
                  · obtain rfl := Option.some.inj ho
                    refine .inl ⟨rfl, ?_⟩
                    have e15 : a.eval (.tmp 15) = .int .i64 ((qq : Nat) : Int) := hpar 15 _ (by kernel_rfl) (by kernel_rfl)
                    exact wpv_of (wp_move _ _ rfl e15) (fun _ _ => rfl)
                  · obtain rfl := Option.some.inj ho
                    refine .inl ⟨rfl, ?_⟩
                    have e121 : a.eval (.tmp 121) = .slice (some ⟨g, 0, none⟩) n n := hrd 0 _ 121 rfl rfl (by kernel_rfl) (by kernel_rfl)
                    have e122 : a.eval (.tmp 122) = .int .i64 ((qq : Nat) : Int) := hrd 1 _ 122 rfl rfl (by kernel_rfl) (by kernel_rfl)
                    exact wpv_of (wp_index_row1 77 49 _ _ rfl uMatT sLinT g n n (qq) .i64 e121 e122 hqn) (fun _ _ => rfl)
                  · obtain rfl := Option.some.inj ho
                    refine .inl ⟨rfl, ?_⟩
                    have e123 : a.eval (.tmp 123) = .pointer (some ⟨g, qq, none⟩) := hrd 2 _ 123 rfl rfl (by kernel_rfl) (by kernel_rfl)
                    exact wpv_of (wp_load_slice 49 55 _ rfl _ e123 uLinT _ ((hM.below hBl).cell1 hqn)) (fun _ _ => rfl)
                  · obtain rfl := Option.some.inj ho
                    refine .inl ⟨rfl, ?_⟩
                    have e12 : a.eval (.tmp 12) = .int .i64 ((rr : Nat) : Int) := hpar 12 _ (by kernel_rfl) (by kernel_rfl)
                    exact wpv_of (wp_move _ _ rfl e12) (fun _ _ => rfl)
                  · obtain rfl := Option.some.inj ho
                    refine .inl ⟨rfl, ?_⟩
                    have e0 : a.eval (.tmp 0) = .int .i64 p := hpar 0 _ (by kernel_rfl) (by kernel_rfl)
                    exact wpv_of (wp_move _ _ rfl e0) (fun _ _ => rfl)
                  · obtain rfl := Option.some.inj ho
                    refine .inl ⟨rfl, ?_⟩
                    have e1 : a.eval (.tmp 1) = .slice (some ⟨g, 0, none⟩) n n := hpar 1 _ (by kernel_rfl) (by kernel_rfl)
                    exact wpv_of (wp_move _ _ rfl e1) (fun _ _ => rfl)
                  · obtain rfl := Option.some.inj ho
                    refine .inl ⟨rfl, ?_⟩
                    have e15 : a.eval (.tmp 15) = .int .i64 ((qq : Nat) : Int) := hpar 15 _ (by kernel_rfl) (by kernel_rfl)
                    exact wpv_of (wp_move _ _ rfl e15) (fun _ _ => rfl)
                  · obtain rfl := Option.some.inj ho
                    refine .inl ⟨rfl, ?_⟩
                    have e127 : a.eval (.tmp 127) = .slice (some ⟨g, 0, none⟩) n n := hrd 6 _ 127 rfl rfl (by kernel_rfl) (by kernel_rfl)
                    have e128 : a.eval (.tmp 128) = .int .i64 ((qq : Nat) : Int) := hrd 7 _ 128 rfl rfl (by kernel_rfl) (by kernel_rfl)
                    exact wpv_of (wp_index_row1 77 49 _ _ rfl uMatT sLinT g n n (qq) .i64 e127 e128 hqn) (fun _ _ => rfl)
                  · obtain rfl := Option.some.inj ho
                    refine .inl ⟨rfl, ?_⟩
                    have e129 : a.eval (.tmp 129) = .pointer (some ⟨g, qq, none⟩) := hrd 8 _ 129 rfl rfl (by kernel_rfl) (by kernel_rfl)
                    exact wpv_of (wp_load_slice 49 55 _ rfl _ e129 uLinT _ ((hM.below hBl).cell1 hqn)) (fun _ _ => rfl)
                  · obtain rfl := Option.some.inj ho
                    refine .inl ⟨rfl, ?_⟩
                    have e12 : a.eval (.tmp 12) = .int .i64 ((rr : Nat) : Int) := hpar 12 _ (by kernel_rfl) (by kernel_rfl)
                    exact wpv_of (wp_move _ _ rfl e12) (fun _ _ => rfl)
                  · obtain rfl := Option.some.inj ho
                    refine .inl ⟨rfl, ?_⟩
                    have e130 : a.eval (.tmp 130) = .slice (some ⟨b (qq), 0, none⟩) n (c (qq)) := hrd 9 _ 130 rfl rfl (by kernel_rfl) (by kernel_rfl)
                    have e131 : a.eval (.tmp 131) = .int .i64 ((rr : Nat) : Int) := hrd 10 _ 131 rfl rfl (by kernel_rfl) (by kernel_rfl)
                    exact wpv_of (wp_index_row1 49 55 _ _ rfl uLinT sEntT (b (qq)) n (c (qq)) (rr) .i64 e130 e131 hrn) (fun _ _ => rfl)
                  · obtain rfl := Option.some.inj ho
                    refine .inl ⟨rfl, ?_⟩
                    have e132 : a.eval (.tmp 132) = .pointer (some ⟨b (qq), rr, none⟩) := hrd 11 _ 132 rfl rfl (by kernel_rfl) (by kernel_rfl)
                    exact wpv_of (wp_load_slice 55 2 _ rfl _ e132 uEntT _ ((hM.below hBl).cell2 hqn hrn)) (fun _ _ => rfl)
                  · obtain rfl := Option.some.inj ho
                    refine .inl ⟨rfl, ?_⟩
                    have e0 : a.eval (.tmp 0) = .int .i64 p := hpar 0 _ (by kernel_rfl) (by kernel_rfl)
                    exact wpv_of (wp_move _ _ rfl e0) (fun _ _ => rfl)
                  · obtain rfl := Option.some.inj ho
                    refine .inl ⟨rfl, ?_⟩
                    have e13 : a.eval (.tmp 13) = uA19 := hpar 13 _ (by kernel_rfl) (by kernel_rfl)
                    have h13 := (hQ).below hBl
                    exact wpv_of (wp_move _ _ rfl e13) (fun w' hb => by have h := h13; exact h13.below hb)
                  · obtain rfl := Option.some.inj ho
                    refine .inl ⟨rfl, ?_⟩
                    have e1 : a.eval (.tmp 1) = .slice (some ⟨g, 0, none⟩) n n := hpar 1 _ (by kernel_rfl) (by kernel_rfl)
                    exact wpv_of (wp_move _ _ rfl e1) (fun _ _ => rfl)
                  · obtain rfl := Option.some.inj ho
                    refine .inl ⟨rfl, ?_⟩
                    have e15 : a.eval (.tmp 15) = .int .i64 ((qq : Nat) : Int) := hpar 15 _ (by kernel_rfl) (by kernel_rfl)
                    exact wpv_of (wp_move _ _ rfl e15) (fun _ _ => rfl)
                  · obtain rfl := Option.some.inj ho
                    refine .inl ⟨rfl, ?_⟩
                    have e136 : a.eval (.tmp 136) = .slice (some ⟨g, 0, none⟩) n n := hrd 15 _ 136 rfl rfl (by kernel_rfl) (by kernel_rfl)
                    have e137 : a.eval (.tmp 137) = .int .i64 ((qq : Nat) : Int) := hrd 16 _ 137 rfl rfl (by kernel_rfl) (by kernel_rfl)
                    exact wpv_of (wp_index_row1 77 49 _ _ rfl uMatT sLinT g n n (qq) .i64 e136 e137 hqn) (fun _ _ => rfl)
                  · obtain rfl := Option.some.inj ho
                    refine .inl ⟨rfl, ?_⟩
                    have e138 : a.eval (.tmp 138) = .pointer (some ⟨g, qq, none⟩) := hrd 17 _ 138 rfl rfl (by kernel_rfl) (by kernel_rfl)
                    exact wpv_of (wp_load_slice 49 55 _ rfl _ e138 uLinT _ ((hM.below hBl).cell1 hqn)) (fun _ _ => rfl)
                  · obtain rfl := Option.some.inj ho
                    refine .inl ⟨rfl, ?_⟩
                    have e2 : a.eval (.tmp 2) = .int .i64 ((k : Nat) : Int) := hpar 2 _ (by kernel_rfl) (by kernel_rfl)
                    exact wpv_of (wp_move _ _ rfl e2) (fun _ _ => rfl)
                  · obtain rfl := Option.some.inj ho
                    refine .inl ⟨rfl, ?_⟩
                    have e139 : a.eval (.tmp 139) = .slice (some ⟨b (qq), 0, none⟩) n (c (qq)) := hrd 18 _ 139 rfl rfl (by kernel_rfl) (by kernel_rfl)
                    have e140 : a.eval (.tmp 140) = .int .i64 ((k : Nat) : Int) := hrd 19 _ 140 rfl rfl (by kernel_rfl) (by kernel_rfl)
                    exact wpv_of (wp_index_row1 49 55 _ _ rfl uLinT sEntT (b (qq)) n (c (qq)) (k) .i64 e139 e140 hk) (fun _ _ => rfl)
                  · obtain rfl := Option.some.inj ho
                    refine .inl ⟨rfl, ?_⟩
                    have e141 : a.eval (.tmp 141) = .pointer (some ⟨b (qq), k, none⟩) := hrd 20 _ 141 rfl rfl (by kernel_rfl) (by kernel_rfl)
                    exact wpv_of (wp_load_slice 55 2 _ rfl _ e141 uEntT _ ((hM.below hBl).cell2 hqn hk)) (fun _ _ => rfl)
                  · obtain rfl := Option.some.inj ho
                    refine .inl ⟨rfl, ?_⟩
                    have e134 : a.eval (.tmp 134) = .int .i64 p := hrd 13 _ 134 rfl rfl (by kernel_rfl) (by kernel_rfl)
                    have h135 : (fun v w => IsRow w v (Q)) (a.eval (.tmp 135)) w2 := hrd 14 _ 135 rfl rfl (by kernel_rfl) (by kernel_rfl)
                    generalize e135 : a.eval (.tmp 135) = v135 at h135
                    have e142 : a.eval (.tmp 142) = (R (qq) (k)) := hrd 21 _ 142 rfl rfl (by kernel_rfl) (by kernel_rfl)
                    exact wpv_call 38 [.tmp 134, .tmp 135, .tmp 142] _ rfl [.int .i64 p, v135, (R (qq) (k))] (by simp only [List.map_cons, List.map_nil, e134, e135, e142]) Try.call38 (htim.out w2 _ h135 (hM.below hBl))
                  · obtain rfl := Option.some.inj ho
                    refine .inl ⟨rfl, ?_⟩
                    have e126 : a.eval (.tmp 126) = .int .i64 p := hrd 5 _ 126 rfl rfl (by kernel_rfl) (by kernel_rfl)
                    have e133 : a.eval (.tmp 133) = (R (qq) (rr)) := hrd 12 _ 133 rfl rfl (by kernel_rfl) (by kernel_rfl)
                    have h143 : (fun v w => IsRow w v (mulp p Q (M1 qq k))) (a.eval (.tmp 143)) w2 := hrd 22 _ 143 rfl rfl (by kernel_rfl) (by kernel_rfl)
                    generalize e143 : a.eval (.tmp 143) = v143 at h143
                    exact wpv_call 61 [.tmp 126, .tmp 133, .tmp 143, .const (.int .i64 (-1))] _ rfl [.int .i64 p, (R (qq) (rr)), v143, .int .i64 (-1)] (by simp only [List.map_cons, List.map_nil, e126, e133, e143, eval_const]) Try.call61 (hcom.out w2 _ (hM.below hBl) h143)
                  · obtain rfl := Option.some.inj ho
                    refine .inl ⟨rfl, ?_⟩
                    have e124 : a.eval (.tmp 124) = .slice (some ⟨b (qq), 0, none⟩) n (c (qq)) := hrd 3 _ 124 rfl rfl (by kernel_rfl) (by kernel_rfl)
                    have e125 : a.eval (.tmp 125) = .int .i64 ((rr : Nat) : Int) := hrd 4 _ 125 rfl rfl (by kernel_rfl) (by kernel_rfl)
                    exact wpv_of (wp_index_row1 49 55 _ _ rfl uLinT sEntT (b (qq)) n (c (qq)) (rr) .i64 e124 e125 hrn) (fun _ _ => rfl)
                  · obtain rfl := Option.some.inj ho
                    exact absurd rfl hiZ
                  · simp at ho
                intro oZ hoZ vals xB hBx hSx hc0
                obtain rfl := Option.some.inj hoZ
                clear hoZ
                have e0 : vals 0 = .slice (some ⟨g, 0, none⟩) n n := hc0 0 (by simp) (by decide)
                have e1 : vals 1 = .int .i64 ((qq : Nat) : Int) := hc0 1 (by simp) (by decide)
                have e2 : vals 2 = .pointer (some ⟨g, qq, none⟩) := hc0 2 (by simp) (by decide)
                have e3 : vals 3 = .slice (some ⟨b (qq), 0, none⟩) n (c (qq)) := hc0 3 (by simp) (by decide)
                have e4 : vals 4 = .int .i64 ((rr : Nat) : Int) := hc0 4 (by simp) (by decide)
                have e5 : vals 5 = .int .i64 p := hc0 5 (by simp) (by decide)
                have e6 : vals 6 = .slice (some ⟨g, 0, none⟩) n n := hc0 6 (by simp) (by decide)
                have e7 : vals 7 = .int .i64 ((qq : Nat) : Int) := hc0 7 (by simp) (by decide)
                have e8 : vals 8 = .pointer (some ⟨g, qq, none⟩) := hc0 8 (by simp) (by decide)
                have e9 : vals 9 = .slice (some ⟨b (qq), 0, none⟩) n (c (qq)) := hc0 9 (by simp) (by decide)
                have e10 : vals 10 = .int .i64 ((rr : Nat) : Int) := hc0 10 (by simp) (by decide)
                have e11 : vals 11 = .pointer (some ⟨b (qq), rr, none⟩) := hc0 11 (by simp) (by decide)
                have e12 : vals 12 = (R (qq) (rr)) := hc0 12 (by simp) (by decide)
                have e13 : vals 13 = .int .i64 p := hc0 13 (by simp) (by decide)
                have cB14 : (fun v w => IsRow w v (Q)) (vals 14) xB := hc0 14 (by simp) (by decide)
                generalize ev14 : vals 14 = uB14 at cB14
                have e15 : vals 15 = .slice (some ⟨g, 0, none⟩) n n := hc0 15 (by simp) (by decide)
                have e16 : vals 16 = .int .i64 ((qq : Nat) : Int) := hc0 16 (by simp) (by decide)
                have e17 : vals 17 = .pointer (some ⟨g, qq, none⟩) := hc0 17 (by simp) (by decide)
                have e18 : vals 18 = .slice (some ⟨b (qq), 0, none⟩) n (c (qq)) := hc0 18 (by simp) (by decide)
                have e19 : vals 19 = .int .i64 ((k : Nat) : Int) := hc0 19 (by simp) (by decide)
                have e20 : vals 20 = .pointer (some ⟨b (qq), k, none⟩) := hc0 20 (by simp) (by decide)
                have e21 : vals 21 = (R (qq) (k)) := hc0 21 (by simp) (by decide)
                have cB22 : (fun v w => IsRow w v (mulp p Q (M1 qq k))) (vals 22) xB := hc0 22 (by simp) (by decide)
                generalize ev22 : vals 22 = uB22 at cB22
                have cB23 : (fun v w => IsRow w v (addp p (M1 qq rr) (mulp p Q (M1 qq k)) (-1))) (vals 23) xB := hc0 23 (by simp) (by decide)
                generalize ev23 : vals 23 = uB23 at cB23
                have e24 : vals 24 = .pointer (some ⟨b (qq), rr, none⟩) := hc0 24 (by simp) (by decide)
                refine ⟨rfl, ?_⟩
                simp only [List.length_cons, List.length_nil, Nat.zero_add, Nat.reduceAdd, List.replicate, seenAll, Bool.false_eq_true, if_false, putAll, if_true, Act.put, List.setIfInBounds_toArray, List.set_cons_zero, List.set_cons_succ, e0, e1, e2, e3, e4, e5, e6, e7, e8, e9, e10, e11, e12, e13, ev14, e15, e16, e17, e18, e19, e20, e21, ev22, ev23, e24]
                have hb0 := hM.bel hb hBx
                replace hM := hM.below hBx
                replace hQ := hQ.below hBx
                replace hb := hb0
                clear hb0 hBx hc0 hSx e0 e1 e2 e3 e4 e5 e6 e7 e8 e9 e10 e11 e12 e13 ev14 e15 e16 e17 e18 e19 e20 e21 ev22 ev23 e24
                have hU := show IsRow xB uB23 (addp p (M1 qq rr) (mulp p Q (M1 qq k)) (-1)) from cB23
                clear cB14 cB22 cB23 htim hcom
                refine wp_store_arrN 55 _ _ rfl (b qq) rr rfl uB23 rfl (c qq) (R qq) _ (hM.inn qq hqn) (by have := (hM.cap qq hqn).1; omega) sEntT (slice_one hU.isSlice) ?_
                have hM3 := Lib.hid ((hM.store hqn hrn hU).congr (fun x y hx hy => (congrFun (congrFun (colPart_next hkr hrn hq0 hqn (by rw [hQeH.out])) x) y)))
                have hQ3 := Lib.hid (hQ.upd (hM.inn qq hqn) (fun q _ => hM.sl qq q) (fun q hq => setRow_other xB (b qq) q (arr (c qq) fun q => if q = rr then uB23 else R qq q) hq))
                have hb3 := Lib.hid (hb.setRow (hM.hb qq hqn) (hM.upb qq hqn) (hM.inn qq hqn) (fun q _ => hM.sl qq q) (arr (c qq) fun q => if q = rr then uB23 else R qq q))
                clear hM hU hQ hb
                go_wp2_with fail
                go_roundw
                case rel => exact ⟨qq + 1, _, by go_num, by omega, by omega, hM3.out, hQ3.out, hb3.out⟩
                case measure => simp [intOf] <;> omega
              · have eqn : n = qq := by omega
                subst eqn
                clear hQ hQPH hQl hQeH
                go_wp2_with fail
                go_roundw
                case rel => exact ⟨_, rr + 1, R, rfl, by go_num, by omega, by omega, hnx, hM.congr (fun x y hx hy => colPart_line hx hy), hb⟩
                case measure => simp [intOf] <;> omega
        · have ern : n = rr := by omega
          have hzf : z = cl := Bool.eq_iff_iff.2 ((by have := hz.out; rw [← ern] at this; exact this : z = true ↔ (z0 = true ∧ Cl2 p k M1 n)).trans (hfinH.out z0 hzn.out))
          subst ern
          subst hzf
          clear hz hzn
          go_wp2_with fail
          go_ret
          exact ⟨rfl, ⟨b, c, R, hM.congr (fun i j hi hj => by rw [colPart_all hi hj, ← hM1H.out]; rfl)⟩, hb⟩
end Go.Proofs.Ytnkkkgaojhkniab
