/- Walks: the reference's greatest common divisors of determinants of parts of a table. -/
import Derived.Test.YtnkkkgaojhkniabSp4
set_option linter.unusedVariables false
set_option linter.unusedSimpArgs false
namespace Go.Proofs.Ytnkkkgaojhkniab
open Go.RowKit
theorem gcdp_ok {p : Int} (hp : Pr p) {a b : List Int} (ha : Po p a) (hb : Po p b) :
    Po p (gcdp p a b) ∧ ((gcdp p a b).length ≤ a.length ∨ (gcdp p a b).length ≤ b.length) ∧ (gcdp p a b ≠ [] → cf (gcdp p a b) ((gcdp p a b).length - 1) = 1) ∧ ∀ d, Dv p d (cf (gcdp p a b)) ↔ Dv p d (cf a) ∧ Dv p d (cf b) := by
  have hp2 := hp.pos
  by_cases hz : a = [] ∧ b = []
  · have e : gcdp p a b = [] := if_pos hz
    obtain ⟨rfl, rfl⟩ := hz
    rw [e]
    exact ⟨Po_nil (by omega), .inl (Nat.le_refl _), fun h => absurd rfl h, fun d => ⟨fun h => ⟨h, h⟩, fun h => h.1⟩⟩
  · have e : gcdp p a b = (bez p a b).1 := if_neg hz
    have hne : a ≠ [] ∨ b ≠ [] := by
      by_cases h1 : a = []
      · exact .inr fun h2 => hz ⟨h1, h2⟩
      · exact .inl h1
    have h := bez_ok hp ha hb hne
    rw [e]
    have len : ∀ x, Po p x → x ≠ [] → Dv p (cf (bez p a b).1) (cf x) → (bez p a b).1.length ≤ x.length := fun x hx hn hd => by
      obtain ⟨q, hq, e⟩ := hd.list hp hx
      obtain ⟨h1, _, h3⟩ := mulp_len_pos hp hq h.pd (e ▸ hn)
      have := List.length_pos_iff.2 h1
      rw [← e] at h3
      omega
    refine ⟨h.pd, ?_, fun _ => h.one, fun d => ⟨fun hd => ⟨hd.trans h.da, hd.trans h.db⟩, fun hd => ?_⟩⟩
    · rcases hne with h1 | h1
      · exact .inl (len a ha h1 h.da)
      · exact .inr (len b hb h1 h.db)
    · exact Dv.comb (cf_Fin0 _) hd.1 (Dv.mul (cf_Fin0 _) hd.2) h.id
/-- Ahead of a pair of parts, in the order in which they come. -/
def bef (r c r' c' : Nat) : Prop := r' < r ∨ (r' = r ∧ c' < c)
/-- What is known of O ahead of a pair of parts. -/
structure DivI (p : Int) (n k : Nat) (E : MxL) (r c : Nat) (O : List Int) : Prop where
  po : Po p O
  le : O.length ≤ 8
  one : O ≠ [] → cf O (O.length - 1) = 1
  dv : ∀ d, Dv p d (cf O) ↔ ∀ r' c', bef r c r' c' → r' < 2 ^ n → c' < 2 ^ n → (bits n r').length = k → (bits n c').length = k → Dv p d (cf (minP p E (bits n r') (bits n c')))
theorem DivI.start {p : Int} (hp : Pr p) (n k : Nat) (E : MxL) : DivI p n k E 0 0 [] :=
  ⟨Po_nil (by have := hp.pos; omega), by simp, fun h => absurd rfl h, fun d => ⟨fun _ r' c' hb => by unfold bef at hb; omega, fun _ => by rw [cf_nil_zero]; exact Dv.zero d⟩⟩
theorem DivI.skip {p : Int} {n k : Nat} {E : MxL} {r c : Nat} {O : List Int} (h : DivI p n k E r c O) (hs : (bits n r).length ≠ k ∨ (bits n c).length ≠ k) : DivI p n k E r (c + 1) O := by
  refine ⟨h.po, h.le, h.one, fun d => (h.dv d).trans ⟨fun g r' c' hb h1 h2 h3 h4 => ?_, fun g r' c' hb h1 h2 h3 h4 => g r' c' ?_ h1 h2 h3 h4⟩⟩
  · refine g r' c' ?_ h1 h2 h3 h4
    unfold bef at *
    rcases hb with hb | ⟨rfl, hb⟩
    · exact .inl hb
    · by_cases e : c' = c
      · subst e; rcases hs with hs | hs
        · exact absurd h3 hs
        · exact absurd h4 hs
      · exact .inr ⟨rfl, by omega⟩
  · unfold bef at *; omega
theorem DivI.step {p : Int} (hp : Pr p) {n k : Nat} {E : MxL} {r c : Nat} {O : List Int} (h : DivI p n k E r c O) (hr : r < 2 ^ n) (hc : c < 2 ^ n) (h1 : (bits n r).length = k) (h2 : (bits n c).length = k) (hD : Po p (minP p E (bits n r) (bits n c))) (hl : (minP p E (bits n r) (bits n c)).length ≤ 8) :
    DivI p n k E r (c + 1) (gcdp p O (minP p E (bits n r) (bits n c))) := by
  obtain ⟨g1, g2, g3, g4⟩ := gcdp_ok hp h.po hD
  refine ⟨g1, by have := h.le; omega, g3, fun d => (g4 d).trans ⟨fun ⟨a1, a2⟩ r' c' hb q1 q2 q3 q4 => ?_, fun g => ⟨(h.dv d).2 fun r' c' hb q1 q2 q3 q4 => g r' c' ?_ q1 q2 q3 q4, g r c (by unfold bef; omega) hr hc h1 h2⟩⟩⟩
  · by_cases e : r' = r ∧ c' = c
    · obtain ⟨rfl, rfl⟩ := e; exact a2
    · exact (h.dv d).1 a1 r' c' (by unfold bef at *; omega) q1 q2 q3 q4
  · unfold bef at *; omega
theorem DivI.line {p : Int} {n k : Nat} {E : MxL} {r : Nat} {O : List Int} (h : DivI p n k E r (2 ^ n) O) : DivI p n k E (r + 1) 0 O := by
  refine ⟨h.po, h.le, h.one, fun d => (h.dv d).trans ⟨fun g r' c' hb h1 h2 h3 h4 => g r' c' ?_ h1 h2 h3 h4, fun g r' c' hb h1 h2 h3 h4 => g r' c' ?_ h1 h2 h3 h4⟩⟩
  · unfold bef at *; omega
  · unfold bef at *; omega
section
variable {p : Int} {n k : Nat} {E : MxL}
theorem all_bits {d : PS} (hp : Pr p) (hn : n ≤ 6) (hk : k ≤ 6) (hE : ∀ i j, i < n → j < n → Po p (E i j) ∧ (E i j).length ≤ 2) : AllMinK (Dv p d) (· < n) k (cfm E) ↔ ∀ r' c', r' < 2 ^ n → c' < 2 ^ n → (bits n r').length = k → (bits n c').length = k → Dv p d (cf (minP p E (bits n r') (bits n c'))) := by
  constructor
  · intro h r' c' _ _ h3 h4
    obtain ⟨_, _, e⟩ := minP_ok hp hn hE (R := bits n r') (C := bits n c') (fun i hi => bits_mem hi) (fun i hi => bits_mem hi) (by omega)
    exact (h _ _ (fun i hi => bits_mem hi) (fun i hi => bits_mem hi) h3 h4).congr e
  · intro h
    refine dv_of_ord fun R C hR hC h3 h4 => ?_
    obtain ⟨r', hr, rfl⟩ := ord_bits hn hR
    obtain ⟨c', hc, rfl⟩ := ord_bits hn hC
    obtain ⟨_, _, e⟩ := minP_ok hp hn hE (R := bits n r') (C := bits n c') (fun i hi => bits_mem hi) (fun i hi => bits_mem hi) (by omega)
    exact (h r' c' hr hc h3 h4).congr e.symm
theorem DivI.done (hp : Pr p) (hn : n ≤ 6) (hk : k ≤ 6) (hE : ∀ i j, i < n → j < n → Po p (E i j) ∧ (E i j).length ≤ 2) {O g : List Int} (h : DivI p n k E (2 ^ n) 0 O) (hg : IsG p n k (cfm E) g) : O = g := by
  have hd : ∀ d, Dv p d (cf O) ↔ AllMinK (Dv p d) (· < n) k (cfm E) := fun d => (h.dv d).trans (Iff.trans ⟨fun q r' c' h1 h2 h3 h4 => q r' c' (.inl h1) h1 h2 h3 h4, fun q r' c' _ h1 h2 h3 h4 => q r' c' h1 h2 h3 h4⟩ (all_bits hp hn hk hE).symm)
  have hne : O ≠ [] := fun e => by
    have h1 := hg.gr _ ((hd _).1 (Dv.refl _))
    rw [e] at h1
    obtain ⟨q, _, e2⟩ := h1.list hp hg.po
    have h0 : mulp p q [] = [] := by
      rcases mulp_len hp ‹Po p q› (Po_nil (p := p) (by have := hp.pos; omega)) with h | ⟨_, h, _⟩
      · exact h
      · exact absurd rfl h
    exact hg.ne (e2.trans h0)
  exact IsG.same hp ⟨h.po, hne, h.one hne, (hd _).1 (Dv.refl _), fun e he => (hd e).2 he⟩ hg
theorem one_of_len (hp : Pr p) {O : List Int} (hO : Po p O) (hl : O.length = 1) (h1 : O ≠ [] → cf O (O.length - 1) = 1) : O = [1] := by
  have hp2 := hp.pos
  have hne : O ≠ [] := fun e => by rw [e] at hl; simp at hl
  have h2 := h1 hne
  rw [hl] at h2
  obtain ⟨x, rfl⟩ := List.length_eq_one_iff.1 hl
  rw [cf_cons_zero] at h2
  rw [h2]
theorem DivI.early (hp : Pr p) (hn : n ≤ 6) (hk : k ≤ 6) (hE : ∀ i j, i < n → j < n → Po p (E i j) ∧ (E i j).length ≤ 2) {r c : Nat} {O g : List Int} (h : DivI p n k E r c O) (hl : O.length = 1) (hg : IsG p n k (cfm E) g) : O = g := by
  have hp2 := hp.pos
  have e := one_of_len hp h.po hl h.one
  have hne : O ≠ [] := fun e => by rw [e] at hl; simp at hl
  refine IsG.same hp ⟨h.po, hne, h.one hne, ?_, fun d hd => (h.dv d).2 fun r' c' _ h1 h2 h3 h4 => (all_bits hp hn hk hE).1 hd r' c' h1 h2 h3 h4⟩ hg
  intro R C _ _ _ _
  rw [e, cf_one]
  refine (all_bits hp hn hk hE (d := pone)).2 (fun r' c' _ _ _ _ => ⟨cf (minP p E (bits n r') (bits n c')), _, cf_Fin0 _, Eqp.of_eq (pmul_one _).symm⟩) R C ‹_› ‹_› ‹_› ‹_›
end
set_option maxRecDepth 20000 in
set_option maxHeartbeats 8000000 in
theorem l05Divisor_any (E : MxL) (p : Int) (n k : Nat) (G : List Int) (hp : Pr p) (hn : n ≤ 6) (hk : k ≤ n) (hE : ∀ i j, i < n → j < n → Po p (E i j) ∧ (E i j).length ≤ 2) (v : Value) (w : World) (hT : TabS w v n E) (hG : IsG p n k (cfm E) G) :
    Calls Try.prog 54 #[.int .i64 p, v, .int .i64 k] w fun e w' => e = .returned (.agg (u8s 64 (cf G))) ∧ Below w.heap.size w w' := by
  have hp2 := hp.pos
  have hpH := Lib.hid hp
  have hEH := Lib.hid hE
  have hGH := Lib.hid hG
  have h64 : 2 ^ n ≤ 2 ^ 6 := Nat.pow_le_pow_right (by omega) hn
  obtain ⟨N, hN⟩ : ∃ N, 2 ^ n = N := ⟨_, rfl⟩
  have hNH := Lib.hid hN
  have hN64 : N ≤ 64 := by omega
  have hTH := Lib.hid (fun w' (hb : Below w.heap.size w w') => hT.below hb)
  obtain ⟨g, c9, Rl, rfl, _, _⟩ := hT
  have hZ := Blk.new w (u8s 64 fun _ => 0) 25
  have hb0 := below_new w (.cells (u8s 64 fun _ => 0) 25)
  have hnI : (n : Int) ≤ 6 := by omega
  clear hp hE hG hN h64
  go_enter Try.func54, Try.ntmps54
  go_upto_region 1 with ((with_reducible refine wpl_guard ?_); first | (refine wpl_alloc_arr rfl 25 rfl _ zPoly ?_))
  have hO := Blk.new (w.alloc (.cells (u8s 64 fun _ => 0) 25)) (u8s 64 fun _ => 0) 25
  have hnn := below_new (w.alloc (.cells (u8s 64 fun _ => 0) 25)) (.cells (u8s 64 fun _ => 0) 25)
  replace hZ := hZ.keep hnn
  replace hb0 := below_step hb0 hnn
  have hv0 := Lib.hid (u8s_ext fun j _ => (cf_nil j).symm : u8s 64 (fun _ => 0) = u8s 64 (cf []))
  clear hnn
  go_upto_region 2 with ((with_reducible refine wpl_guard ?_); first | (refine wpl_build_zero rfl 25 64 5 rfl _ uPoly sByte zPoly ?_) | (refine wpl_alloc_arr rfl 25 rfl _ zPoly ?_) | (refine wpl_store_new rfl 25 _ _ rfl _ rfl rfl _ rfl sPoly (by simp only [u8s_size]) (u8s_oneCell _ _) ?_))
  rw [size_alloc] at hO
  have hw64 : wrap64 ((2 : Int) ^ n) = (N : Int) := by
    have key : ∀ i : Fin 7, wrap64 ((2 : Int) ^ i.val) = ((2 ^ i.val : Nat) : Int) := by decide +kernel
    rw [← hNH.out]; exact key ⟨n, by omega⟩
  rw [hw64]
  clear hw64
  generalize World.alloc (World.alloc w (.cells (u8s 64 fun _ => 0) 25)) (.cells (u8s 64 fun _ => 0) 25) = wa at *
  rw [hv0.out] at hO
  obtain ⟨gO, hgO⟩ : ∃ q, w.heap.size + 1 = q := ⟨_, rfl⟩
  rw [hgO] at hO ⊢
  have hgZ : w.heap.size < gO := by omega
  clear hgO hv0
  go_wp2_with fail
  go_loopw [9] (fun vr wr => ∃ (r : Nat) (O : List Int), vr = .int .i64 (r : Int) ∧ r ≤ N ∧ Blk wr gO (u8s 64 (cf O)) 25 ∧ Hid (DivI p n k E r 0 O) ∧ Blk wr w.heap.size (u8s 64 fun _ => 0) 25 ∧ Below w.heap.size w wr) (fun vr _ => N - (intOf vr).toNat)
  case atStart => exact ⟨0, [], rfl, by omega, hO, Lib.hid (DivI.start hpH.out n k E), hZ, hb0⟩
  case round =>
    clear hO hZ hb0
    obtain ⟨r, O, rfl, hr, hO, hI, hZ, hb⟩ := hrel
    by_cases hrN : r < N
    · have hrI : (r : Int) < (N : Int) := by omega
      go_wp2_with fail
      go_loopw [10] (fun vc wr => ∃ (c : Nat) (O : List Int), vc = .int .i64 (c : Int) ∧ c ≤ N ∧ Blk wr gO (u8s 64 (cf O)) 25 ∧ Hid (DivI p n k E r c O) ∧ Blk wr w.heap.size (u8s 64 fun _ => 0) 25 ∧ Below w.heap.size w wr) (fun vc _ => N - (intOf vc).toNat)
      case atStart => exact ⟨0, O, rfl, by omega, hO, hI, hZ, hb⟩
      case round =>
        clear hO hZ hb hI
        obtain ⟨c, O, rfl, hc, hO, hI, hZ, hb⟩ := hrel
        by_cases hcN : c < N
        · have hcI : (c : Int) < (N : Int) := by omega
          have ho1 := Lib.hid (fun w => l05Ones_any r w (by omega))
          have ho2 := Lib.hid (fun w => l05Ones_any c w (by omega))
          have e1 := ones_bits n hn r (by rw [hNH.out]; omega)
          have e2 := ones_bits n hn c (by rw [hNH.out]; omega)
          rw [e1] at ho1
          rw [e2] at ho2
          have l1 := bits_len n r
          have l2 := bits_len n c
          obtain ⟨x, hx⟩ : ∃ x, (bits n r).length = x := ⟨_, rfl⟩
          obtain ⟨y, hy⟩ : ∃ x, (bits n c).length = x := ⟨_, rfl⟩
          rw [hx] at ho1 l1
          rw [hy] at ho2 l2
          have hxH := Lib.hid hx
          have hyH := Lib.hid hy
          clear hx hy e1 e2
          by_cases hxk : x = k
          · have hxe : ((x : Int) != (k : Int)) = false := by rw [bne_eq_false_iff_eq]; omega
            by_cases hyk : y = k
            · have hye : ((y : Int) != (k : Int)) = false := by rw [bne_eq_false_iff_eq]; omega
              obtain ⟨hm1, hm2, _⟩ := minP_ok hpH.out hn hEH.out (R := bits n r) (C := bits n c) (fun i h => bits_mem h) (fun i h => bits_mem h) (by rw [hxH.out]; omega)
              rw [hxH.out] at hm2
              have hmin := Lib.hid (fun w3 (hT : TabS w3 (.slice (some ⟨g, 0, none⟩) n c9) n E) => l05Minor_any E p n hpH.out hn hEH.out k r c _ w3 (by rw [hNH.out]; omega) (by rw [hNH.out]; omega) (hxH.out.trans hxk) (hyH.out.trans hyk) hT)
              have hI2 := Lib.hid (hI.out.step hpH.out (by rw [hNH.out]; omega) (by rw [hNH.out]; omega) (hxH.out.trans hxk) (hyH.out.trans hyk) hm1 (by omega))
              obtain ⟨D, hD⟩ : ∃ D, minP p E (bits n r) (bits n c) = D := ⟨_, rfl⟩
              rw [hD] at hm1 hm2 hmin hI2
              have hgcd := Lib.hid (fun w3 => l01Gcd_any O D p w3 ⟨hpH.out, hI.out.po, by have := hI.out.le; omega⟩ ⟨hpH.out, hm1, by omega⟩)
              obtain ⟨GO, hGO⟩ : ∃ X, gcdp p O D = X := ⟨_, rfl⟩
              rw [hGO] at hgcd hI2
              have hGP : P64 p GO := ⟨hpH.out, hI2.out.po, by have := hI2.out.le; omega⟩
              have hdeg := Lib.hid (fun w => l01Deg_list p GO w hGP)
              clear hI hxk hyk hm1 hm2 hD hGO hGP
              go_wp2_with fail
              refine (ho1.out _).mono ?_
              rintro e w2 ⟨rfl, hn2⟩
              replace hO := hO.keep hn2
              replace hZ := hZ.keep hn2
              replace hb := below_step hb hn2
              clear hn2
              go_wp2_with fail
              refine (ho2.out _).mono ?_
              rintro e w3 ⟨rfl, hn3⟩
              replace hO := hO.keep hn3
              replace hZ := hZ.keep hn3
              replace hb := below_step hb hn3
              have hT2 := Lib.hid (hTH.out _ hb)
              clear hn3
              go_upto_region 9 with (fail)
              refine gen_last (w := _) (by kernel_rfl) (by kernel_rfl) (by kernel_rfl) 8 (by kernel_rfl)
                  (fun i => ([fun zv _ => zv = .int .i64 p, fun zv _ => zv = .agg (u8s 64 (cf O)), fun zv _ => zv = .int .i64 p, fun zv _ => zv = .slice (some ⟨g, 0, none⟩) n c9, fun zv _ => zv = .int .i64 (r : Int), fun zv _ => zv = .int .i64 (c : Int), fun zv _ => zv = .agg (u8s 64 (cf D)), fun zv _ => zv = .agg (u8s 64 (cf GO)), fun _ _ => True] : List (Value → World → Prop)).getD i (fun _ _ => True))
                  (fun w' => Blk w' (gO) (u8s 64 (cf O)) 25 ∧ True) ⟨hO.drew, trivial⟩ (fun w1 w2 h hb => ⟨h.1.keep hb, trivial⟩) ?_ ?_ ?_
              · intro i v w1 w2 h hb
                rcases i with _|_|_|_|_|_|_|_|_|i
                · exact h
                · exact h
                · exact h
                · exact h
                · exact h
                · exact h
                · exact h
                · exact h
                · exact h
                · exact h
              · intro i o ho hiZ a w2 hBl hSx hrd hpar
                rcases i with _|_|_|_|_|_|_|_|_|i
                · obtain rfl := Option.some.inj ho
                  refine .inl ⟨rfl, ?_⟩
                  have e0 : a.eval (.tmp 0) = .int .i64 p := hpar 0 _ (by kernel_rfl) (by kernel_rfl)
                  exact wpv_of (wp_move _ _ rfl e0) (fun _ _ => rfl)
                · obtain rfl := Option.some.inj ho
                  refine .inl ⟨rfl, ?_⟩
                  exact wpv_of (wp_loadB 25 _ rfl _ (hpar 7 (.pointer (some ⟨gO, 0, none⟩)) (by kernel_rfl) (by kernel_rfl)) _ _ hSx.1 _ _ uPoly sPoly) (fun _ _ => rfl)
                · obtain rfl := Option.some.inj ho
                  refine .inl ⟨rfl, ?_⟩
                  have e0 : a.eval (.tmp 0) = .int .i64 p := hpar 0 _ (by kernel_rfl) (by kernel_rfl)
                  exact wpv_of (wp_move _ _ rfl e0) (fun _ _ => rfl)
                · obtain rfl := Option.some.inj ho
                  refine .inl ⟨rfl, ?_⟩
                  have e1 : a.eval (.tmp 1) = .slice (some ⟨g, 0, none⟩) n c9 := hpar 1 _ (by kernel_rfl) (by kernel_rfl)
                  exact wpv_of (wp_move _ _ rfl e1) (fun _ _ => rfl)
                · obtain rfl := Option.some.inj ho
                  refine .inl ⟨rfl, ?_⟩
                  have e9 : a.eval (.tmp 9) = .int .i64 (r : Int) := hpar 9 _ (by kernel_rfl) (by kernel_rfl)
                  exact wpv_of (wp_move _ _ rfl e9) (fun _ _ => rfl)
                · obtain rfl := Option.some.inj ho
                  refine .inl ⟨rfl, ?_⟩
                  have e10 : a.eval (.tmp 10) = .int .i64 (c : Int) := hpar 10 _ (by kernel_rfl) (by kernel_rfl)
                  exact wpv_of (wp_move _ _ rfl e10) (fun _ _ => rfl)
                · obtain rfl := Option.some.inj ho
                  refine .inl ⟨rfl, ?_⟩
                  have e38 : a.eval (.tmp 38) = .int .i64 p := hrd 2 _ 38 rfl rfl (by kernel_rfl) (by kernel_rfl)
                  have e39 : a.eval (.tmp 39) = .slice (some ⟨g, 0, none⟩) n c9 := hrd 3 _ 39 rfl rfl (by kernel_rfl) (by kernel_rfl)
                  have e40 : a.eval (.tmp 40) = .int .i64 (r : Int) := hrd 4 _ 40 rfl rfl (by kernel_rfl) (by kernel_rfl)
                  have e41 : a.eval (.tmp 41) = .int .i64 (c : Int) := hrd 5 _ 41 rfl rfl (by kernel_rfl) (by kernel_rfl)
                  exact wpv_call 85 [.tmp 38, .tmp 39, .tmp 40, .tmp 41] _ rfl [.int .i64 p, .slice (some ⟨g, 0, none⟩) n c9, .int .i64 (r : Int), .int .i64 (c : Int)] (by simp only [List.map_cons, List.map_nil, e38, e39, e40, e41]) Try.call85 ((hmin.out w2 (hT2.out.below hBl)).mono fun _ _ ⟨h1, h2⟩ => ⟨_, h1, rfl, h2⟩)
                · obtain rfl := Option.some.inj ho
                  refine .inl ⟨rfl, ?_⟩
                  have e36 : a.eval (.tmp 36) = .int .i64 p := hrd 0 _ 36 rfl rfl (by kernel_rfl) (by kernel_rfl)
                  have e37 : a.eval (.tmp 37) = .agg (u8s 64 (cf O)) := hrd 1 _ 37 rfl rfl (by kernel_rfl) (by kernel_rfl)
                  have e42 : a.eval (.tmp 42) = .agg (u8s 64 (cf D)) := hrd 6 _ 42 rfl rfl (by kernel_rfl) (by kernel_rfl)
                  exact wpv_call 84 [.tmp 36, .tmp 37, .tmp 42] _ rfl [.int .i64 p, .agg (u8s 64 (cf O)), .agg (u8s 64 (cf D))] (by simp only [List.map_cons, List.map_nil, e36, e37, e42]) Try.call84 ((hgcd.out w2).mono fun _ _ ⟨h1, h2⟩ => ⟨_, h1, rfl, h2⟩)
                · obtain rfl := Option.some.inj ho
                  exact absurd rfl hiZ
                · simp at ho
              intro oZ hoZ vals xA hBx hSx hc0
              obtain rfl := Option.some.inj hoZ
              clear hoZ
              have e0 : vals 0 = .int .i64 p := hc0 0 (by simp) (by decide)
              have e1 : vals 1 = .agg (u8s 64 (cf O)) := hc0 1 (by simp) (by decide)
              have e2 : vals 2 = .int .i64 p := hc0 2 (by simp) (by decide)
              have e3 : vals 3 = .slice (some ⟨g, 0, none⟩) n c9 := hc0 3 (by simp) (by decide)
              have e4 : vals 4 = .int .i64 (r : Int) := hc0 4 (by simp) (by decide)
              have e5 : vals 5 = .int .i64 (c : Int) := hc0 5 (by simp) (by decide)
              have e6 : vals 6 = .agg (u8s 64 (cf D)) := hc0 6 (by simp) (by decide)
              have e7 : vals 7 = .agg (u8s 64 (cf GO)) := hc0 7 (by simp) (by decide)
              refine ⟨rfl, ?_⟩
              simp only [List.length_cons, List.length_nil, Nat.zero_add, Nat.reduceAdd, List.replicate, seenAll, Bool.false_eq_true, if_false, putAll, if_true, Act.put, List.setIfInBounds_toArray, List.set_cons_zero, List.set_cons_succ, e0, e1, e2, e3, e4, e5, e6, e7]
              replace hZ := hZ.keep hBx
              replace hO := hSx.1
              replace hb := below_step hb hBx
              clear hc0 hSx e0 e1 e2 e3 e4 e5 e6 e7
              refine wp_store_arr 25 _ _ rfl gO rfl _ rfl _ _ hO sPoly (by simp only [u8s_size]) (u8s_oneCell _ _) ?_
              replace hO := hO.setRow_same (cs := u8s 64 (cf GO))
              replace hZ := hZ.setRow_other (g := gO) (cs := u8s 64 (cf GO)) (by omega)
              replace hb := below_setRow hb (show w.heap.size ≤ gO by omega) (u8s 64 (cf GO))
              clear hmin hgcd hT2
              go_wp2_with ((with_reducible refine wpl_guard ?_); first | (refine wpl_load_arr rfl 25 _ rfl _ rfl _ _ hO _ _ uPoly sPoly ?_))
              refine (hdeg.out _).mono ?_
              rintro e w4 ⟨rfl, hn4⟩
              replace hO := hO.keep hn4
              replace hZ := hZ.keep hn4
              replace hb := below_step hb hn4
              clear hn4
              by_cases h1 : GO.length = 1
              · have hz : (((GO.length : Int) - 1) == 0) = true := by rw [beq_iff_eq]; omega
                have hval := Lib.hid (hI2.out.early hpH.out hn (by omega) hEH.out h1 hGH.out : GO = G)
                clear h1
                go_wp2_with ((with_reducible refine wpl_guard ?_); first | (refine wpl_load_arr rfl 25 _ rfl _ rfl _ _ hO _ _ uPoly sPoly ?_) | (refine wpl_store_arr rfl 25 _ _ rfl _ rfl _ rfl _ _ hZ sPoly (by simp only [u8s_size]) (u8s_oneCell _ _) ?_))
                exact bodyPost_ret (res_c rfl rfl (hZ.setRow_same (cs := u8s 64 (cf GO))) uPoly sPoly) rfl ⟨by rw [hval.out], below_setRow hb (by omega) _⟩
              · have hz : (((GO.length : Int) - 1) == 0) = false := by rw [beq_eq_false_iff_ne]; omega
                clear h1
                go_wp2_with fail
                go_roundw
                case rel => exact ⟨c + 1, GO, by go_num, by omega, hO, hI2, hZ, hb⟩
                case measure => simp [intOf] <;> omega
            · have hye : ((y : Int) != (k : Int)) = true := by rw [bne_iff_ne]; omega
              have hI2 := Lib.hid (hI.out.skip (.inr (by rw [hyH.out]; exact hyk)))
              clear hI hxk hyk
              go_wp2_with fail
              refine (ho1.out _).mono ?_
              rintro e w2 ⟨rfl, hn2⟩
              replace hO := hO.keep hn2
              replace hZ := hZ.keep hn2
              replace hb := below_step hb hn2
              clear hn2
              go_wp2_with fail
              refine (ho2.out _).mono ?_
              rintro e w3 ⟨rfl, hn3⟩
              replace hO := hO.keep hn3
              replace hZ := hZ.keep hn3
              replace hb := below_step hb hn3
              clear hn3
              go_wp2_with fail
              go_roundw
              case rel => exact ⟨c + 1, O, by go_num, by omega, hO, hI2, hZ, hb⟩
              case measure => simp [intOf] <;> omega
          · have hxe : ((x : Int) != (k : Int)) = true := by rw [bne_iff_ne]; omega
            have hI2 := Lib.hid (hI.out.skip (.inl (by rw [hxH.out]; exact hxk)))
            clear hI hxk
            go_wp2_with fail
            refine (ho1.out _).mono ?_
            rintro e w2 ⟨rfl, hn2⟩
            replace hO := hO.keep hn2
            replace hZ := hZ.keep hn2
            replace hb := below_step hb hn2
            clear hn2
            go_wp2_with fail
            go_roundw
            case rel => exact ⟨c + 1, O, by go_num, by omega, hO, hI2, hZ, hb⟩
            case measure => simp [intOf] <;> omega
        · have ecN : N = c := by omega
          have hI2 := Lib.hid (by have := hI.out; rw [← ecN, ← hNH.out] at this; exact this.line : DivI p n k E (r + 1) 0 O)
          subst ecN
          clear hI
          go_wp2_with fail
          go_roundw
          case rel => exact ⟨r + 1, O, by go_num, by omega, hO, hI2, hZ, hb⟩
          case measure => simp [intOf] <;> omega
    · have erN : N = r := by omega
      have hval := Lib.hid (by have := hI.out; rw [← erN, ← hNH.out] at this; exact this.done hpH.out hn (by omega) hEH.out hGH.out : O = G)
      subst erN
      clear hI
      go_wp2_with ((with_reducible refine wpl_guard ?_); first | (refine wpl_load_arr rfl 25 _ rfl _ rfl _ _ hO _ _ uPoly sPoly ?_) | (refine wpl_store_arr rfl 25 _ _ rfl _ rfl _ rfl _ _ hZ sPoly (by simp only [u8s_size]) (u8s_oneCell _ _) ?_))
      exact bodyPost_ret (res_c rfl rfl (hZ.setRow_same (cs := u8s 64 (cf O))) uPoly sPoly) rfl ⟨by rw [hval.out], below_setRow hb (by omega) _⟩
end Go.Proofs.Ytnkkkgaojhkniab
