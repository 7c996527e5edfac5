/- Walks: discriminants. -/
import Derived.Test.YtohgjihccjnheabE1
set_option linter.unusedVariables false
set_option linter.unusedSimpArgs false
namespace Go.Proofs.Ytohgjihccjnheab
open Go.RowKit

set_option maxHeartbeats 400000 in
theorem implIsPoly7_any (f : Nat → Int) (p : Int) (w : World) (hf : ∀ i, i < 64 → 0 ≤ f i ∧ f i ≤ 255) (b : Bool) (hb : decide ((∀ i : Nat, i < 64 → f i < p) ∧ Pr p) = b) :
    Calls Try.prog 61 #[.int .i64 p, .agg (u8s 64 f)] w fun e w' => e = .returned (.bool b) ∧ Below w.heap.size w w' := by
  have hfH := Lib.hid hf; clear hf
  by_cases hp : Pr p
  · have h2 : decide (∀ i : Nat, i < 64 → f i < p) = b := by rw [← hb]; simp [hp]
    have hbH := Lib.hid h2; clear hb h2
    have hp1 : decide (Pr p) = true := by simpa using hp
    have hpH := Lib.hid hp1; clear hp1
    go_enter Try.func61, Try.ntmps61
    go_wp2_with (first | (go_at_call 76; refine (isPrime_any p _ true hpH.out).mono ?_; rintro e w' ⟨rfl, rfl⟩) | (refine wpl_load_arr rfl 27 _ rfl _ rfl _ _ (Blk.new w _ _) _ _ uPoly sPoly ?_) | (go_at_call 66; refine (isPoly_any f p _ hfH.out b hbH.out).mono ?_; rintro e w' ⟨rfl, hb1⟩))
    go_ret
    exact ⟨rfl, ((Below.refl _ _).alloc (Nat.le_refl _) _).trans (hb1.mono (by simp))⟩
  · have h2 : b = false := by rw [← hb]; simp [hp]
    subst h2
    have hp1 : decide (Pr p) = false := by simpa using hp
    have hpH := Lib.hid hp1; clear hp1 hb
    go_enter Try.func61, Try.ntmps61
    go_wp2_with (go_at_call 76; refine (isPrime_any p _ false hpH.out).mono ?_; rintro e w' ⟨rfl, rfl⟩)
    go_ret
    exact ⟨rfl, ((Below.refl _ _).alloc (Nat.le_refl _) _)⟩

set_option maxHeartbeats 400000 in
theorem gcd_any (va vb : Value) (xs ys : List Int) (p : Int) (w : World) (hp : Pr p) (ha : IsRow w va xs) (hb : IsRow w vb ys) (hxa : Po p xs) (hxb : Po p ys) (hne : xs ≠ [] ∨ ys ≠ [])
    (la : xs.length ≤ 64) (lb : ys.length ≤ 64) : Calls Try.prog 22 #[.int .i64 p, va, vb] w fun e w' => ∃ v, e = .returned v ∧ IsRow w' v (bez p xs ys).1 ∧ Below w.heap.size w w' := by
  have h1 := Lib.hid (fun w (h1 : IsRow w va xs) (h2 : IsRow w vb ys) => bezout_any va vb xs ys p w hp h1 h2 hxa hxb hne la lb)
  have haH := Lib.hid ha
  have hbH := Lib.hid hb
  clear hp ha hb hxa hxb hne la lb
  go_enter Try.func22, Try.ntmps22
  go_wp2_with fail
  refine (h1.out _ haH.out hbH.out).mono ?_
  rintro e w1 ⟨v1, v2, v3, rfl, hr, _, _, hn⟩
  have hrH := Lib.hid hr
  clear hr
  go_wp2_with fail
  go_ret
  exact ⟨_, rfl, hrH.out, hn⟩
/-- The greatest common divisor with the derivative. -/
def dgc (p : Int) (f : Nat → Int) : List Int := gcdp p (mkp 64 f) (mkp 64 (derF p f))
theorem derF_P64 {p : Int} (hp : Pr p) (f : Nat → Int) : P64 p (mkp 64 (derF p f)) ∧ By (derF p f) := by
  have h1 : ∀ i, 0 ≤ derF p f i ∧ derF p f i < p := fun i => by
    have := hp.pos
    unfold derF; split
    · exact ⟨Int.emod_nonneg _ (by omega), Int.emod_lt_of_pos _ (by omega)⟩
    · omega
  exact ⟨⟨hp, ⟨mkp_Tr _ _, Md_mkp (by have := hp.pos; omega) fun i _ => h1 i⟩, mkp_length _ _⟩, fun i => by have := h1 i; have := hp.pos; omega⟩
theorem dgc_one {p : Int} {f : Nat → Int} (hp : Pr p) (hx : P64 p (mkp 64 f)) (hne : mkp 64 f ≠ []) : dgc p f = (bez p (mkp 64 f) (mkp 64 (derF p f))).1 ∧ P64 p (dgc p f) ∧ ((dgc p f).length = 1 ↔ dgc p f = [1]) := by
  have e : dgc p f = (bez p (mkp 64 f) (mkp 64 (derF p f))).1 := by unfold dgc gcdp; rw [if_neg (fun h => hne h.1)]
  have hy := (derF_P64 hp f).1
  have hb := bez_ok hp hx.po hy.po (.inl hne)
  have h6 := (bez_P64 hx hy (.inl hne)).1
  rw [e]
  have h1 := hb.one
  generalize (bez p (mkp 64 f) (mkp 64 (derF p f))).1 = D at *
  refine ⟨rfl, h6, fun h => ?_, fun h => by rw [h, List.length_singleton]⟩
  match D, h, h1 with
  | [x], _, h1 => exact congrArg (fun z => [z]) h1
def Disc (p : Int) (f : Nat → Int) : Prop := (((∀ i : Nat, i < 64 → f i < p) ∧ Pr p) ∧ p ≠ 2) ∧ ((mkp 64 f).length = 2 ∨ (mkp 64 f).length = 4 ∨ (mkp 64 f).length = 6) ∧ dgc p f = [1]

set_option maxRecDepth 20000 in
set_option maxHeartbeats 2000000 in
theorem l07Is_any (f : Nat → Int) (p : Int) (b : Bool) (w : World) (hf : By f) (hd : Disc p f ↔ b = true) :
    Calls Try.prog 25 #[.int .i64 p, .agg (u8s 64 f)] w fun e w' => e = .returned (.bool b) ∧ Below w.heap.size w w' := by
  have hfH := Lib.hid hf
  have hD := Lib.hid hd
  clear hf hd
  obtain ⟨hb, hA⟩ := boxes1 w (u8s 64 f) 27
  obtain ⟨q, hq⟩ : ∃ q, decide ((∀ i : Nat, i < 64 → f i < p) ∧ Pr p) = q := ⟨_, rfl⟩
  have hqH := Lib.hid hq
  have hdgf := fun w => l01Deg_any f w hfH.out.on
  clear hq
  go_enter Try.func25, Try.ntmps25
  go_wp2_with ((with_reducible refine wpl_guard ?_); first | (refine wpl_load_arr rfl 27 _ rfl _ rfl _ _ hA _ _ uPoly sPoly ?_))
  refine (l01Is_any f p _ hfH.out.on q hqH.out).mono ?_
  rintro e u1 ⟨rfl, hn⟩
  replace hA := hA.keep hn
  replace hb := below_step hb hn
  clear hn
  obtain ⟨n, hn9⟩ : ∃ n, ((mkp 64 f).length : Int) - 1 = n := ⟨_, rfl⟩
  have hDg := hD.out
  unfold Disc at hDg
  have hdeg : ((mkp 64 f).length = 2 ∨ (mkp 64 f).length = 4 ∨ (mkp 64 f).length = 6) ↔ (n = 1 ∨ n = 3 ∨ n = 5) := by omega
  rw [hdeg] at hDg
  have hneH : n = 1 ∨ n = 3 ∨ n = 5 → mkp 64 f ≠ [] := fun h e => by rw [e] at hn9; simp at hn9; omega
  have hDgH := Lib.hid hDg
  have hneH2 := Lib.hid hneH
  have hn9H := Lib.hid hn9
  clear hdeg hDg hneH hn9
  rw [hn9H.out] at hdgf
  have hdgH := Lib.hid hdgf
  clear hdgf
  cases q
  ·
    have hbf : b = false := by
      cases b
      · rfl
      · exact absurd (hDgH.out.2 rfl) (fun h => of_decide_eq_false hqH.out h.1.1)
    subst hbf
    go_wp2_with fail
    go_ret
    exact ⟨rfl, hb⟩
  have hq1 := of_decide_eq_true hqH.out
  have hpr := hq1.2
  obtain ⟨e2, he2⟩ : ∃ e, (p == 2) = e := ⟨_, rfl⟩
  cases e2
  case' true =>
    have hbf : b = false := by
      cases b
      · rfl
      · exact absurd (hDgH.out.2 rfl) (fun h => h.1.2 (by simpa using he2))
    subst hbf
    go_wp2_with fail
    go_ret
    exact ⟨rfl, hb⟩
  have hp2n : p ≠ 2 := by simpa using he2
  go_wp2_with ((with_reducible refine wpl_guard ?_); first | (refine wpl_load_arr rfl 27 _ rfl _ rfl _ _ hA _ _ uPoly sPoly ?_))
  refine (hdgH.out _).mono ?_
  rintro e u2 ⟨rfl, hn⟩
  replace hA := hA.keep hn
  replace hb := below_step hb hn
  clear hn
  obtain ⟨e1, h1⟩ : ∃ e, (n == 1) = e := ⟨_, rfl⟩
  obtain ⟨e3, h3⟩ : ∃ e, (n == 3) = e := ⟨_, rfl⟩
  obtain ⟨e5, h5⟩ : ∃ e, (n == 5) = e := ⟨_, rfl⟩
  have hG : Good p [f] ↔ true = true := ⟨fun _ => rfl, fun _ => ⟨hpr, fun g hg i hi => by rw [List.mem_singleton] at hg; subst hg; exact hq1.1 i hi⟩⟩
  have hdv := fun w => specDerivativeOf_any f p w hfH.out true hG
  have hx : P64 p (mkp 64 f) := ⟨hpr, ⟨mkp_Tr _ _, Md_mkp (by have := hpr.pos; omega) fun i hi => ⟨(hfH.out i).1, hq1.1 i hi⟩⟩, mkp_length _ _⟩
  have hy := derF_P64 hpr f
  have hgc := fun w => l01Gcd_any _ _ p w hx hy.1
  rw [← u8s_mkp, ← u8s_mkp] at hgc
  rw [show gcdp p (mkp 64 f) (mkp 64 (derF p f)) = dgc p f from rfl] at hgc
  simp only [if_true] at hdv
  have hdvH := Lib.hid hdv
  have hgcH := Lib.hid hgc
  have hfin : (n = 1 ∨ n = 3 ∨ n = 5) → P64 p (dgc p f) ∧ ((dgc p f).length = 1 ↔ b = true) := fun hn => by
    have h := dgc_one hpr hx (hneH2.out hn)
    refine ⟨h.2.1, h.2.2.trans ?_⟩
    rw [← hDgH.out]
    exact ⟨fun h => ⟨⟨hq1, hp2n⟩, hn, h⟩, fun h => h.2.2⟩
  have hno : ¬ (n = 1 ∨ n = 3 ∨ n = 5) → b = false := fun hn => by
    cases b
    · rfl
    · exact absurd (hDgH.out.2 rfl).2.1 hn
  have hfinH := Lib.hid hfin
  have hnoH := Lib.hid hno
  clear hG hdv hx hy hgc hfin hno hq1 hpr hp2n
  cases e1
  · cases e3
    · cases e5
      · have hbf := hnoH.out (by simp only [beq_eq_false_iff_ne] at h1 h3 h5; omega)
        subst hbf
        have k1 : ¬ n = 1 := by simpa using h1
        have k3 : ¬ n = 3 := by simpa using h3
        have k5 : ¬ n = 5 := by simpa using h5
        have m1 : (n != 1) = true := by rw [bne, h1]; rfl
        have m3 : (n != 3) = true := by rw [bne, h3]; rfl
        have m5 : (n != 5) = true := by rw [bne, h5]; rfl
        go_wp2_with fail
        go_ret
        exact ⟨rfl, hb⟩
      ·
        have hF := hfinH.out (by simp at h5; omega)
        have hdeg2 := fun w => l01Deg_list p _ w hF.1
        obtain ⟨L, hL⟩ : ∃ L, (dgc p f).length = L := ⟨_, rfl⟩
        have hF2 := hF.2
        rw [hL] at hdeg2 hF2
        have hb2 : ((L : Int) - 1 == 0) = b := by
          cases b
          · rw [beq_eq_false_iff_ne]; intro e; exact absurd (hF2.1 (by omega)) (by simp)
          · have := hF2.2 rfl; rw [this]; rfl
        have hdeg2H := Lib.hid hdeg2
        clear hF hdeg2 hF2 hL
        obtain rfl : n = 5 := by simpa using h5
        clear h1 h3 h5
        go_wp2_with ((with_reducible refine wpl_guard ?_); first | (refine wpl_load_arr rfl 27 _ rfl _ rfl _ _ hA _ _ uPoly sPoly ?_))
        refine (hdvH.out _).mono ?_
        rintro e u3 ⟨rfl, hn⟩
        replace hA := hA.keep hn
        replace hb := below_step hb hn
        clear hn
        go_upto_region 7 with ((with_reducible refine wpl_guard ?_); first | (refine wpl_alloc_arr rfl 27 rfl _ zPoly ?_) | (refine wpl_store_new rfl 27 _ _ rfl _ rfl rfl _ rfl sPoly (by simp only [u8s_size]) (u8s_oneCell _ _) ?_))
        have hV := Blk.newAt (w := u3) (n := u3.heap.size) rfl (u8s 64 (derF p f)) 27
        replace hA := hA.alloc (.cells (u8s 64 (derF p f)) 27)
        replace hb := below_step hb (below_new u3 (.cells (u8s 64 (derF p f)) 27))
        go_wp2_with ((with_reducible refine wpl_guard ?_); first | (refine wpl_load_arr rfl 27 _ rfl _ rfl _ _ hA _ _ uPoly sPoly ?_) | (refine wpl_load_arr rfl 27 _ rfl _ rfl _ _ hV _ _ uPoly sPoly ?_))
        refine (hgcH.out _).mono ?_
        rintro e u4 ⟨rfl, hn⟩
        replace hA := hA.keep hn
        replace hb := below_step hb hn
        clear hn
        go_wp2_with fail
        refine (hdeg2H.out _).mono ?_
        rintro e u5 ⟨rfl, hn⟩
        replace hA := hA.keep hn
        replace hb := below_step hb hn
        clear hn
        go_wp2_with fail
        go_ret
        exact ⟨rfl, hb⟩
    ·
      have hF := hfinH.out (by simp at h3; omega)
      have hdeg2 := fun w => l01Deg_list p _ w hF.1
      obtain ⟨L, hL⟩ : ∃ L, (dgc p f).length = L := ⟨_, rfl⟩
      have hF2 := hF.2
      rw [hL] at hdeg2 hF2
      have hb2 : ((L : Int) - 1 == 0) = b := by
        cases b
        · rw [beq_eq_false_iff_ne]; intro e; exact absurd (hF2.1 (by omega)) (by simp)
        · have := hF2.2 rfl; rw [this]; rfl
      have hdeg2H := Lib.hid hdeg2
      clear hF hdeg2 hF2 hL
      obtain rfl : n = 3 := by simpa using h3
      clear h1 h3 h5
      go_wp2_with ((with_reducible refine wpl_guard ?_); first | (refine wpl_load_arr rfl 27 _ rfl _ rfl _ _ hA _ _ uPoly sPoly ?_))
      refine (hdvH.out _).mono ?_
      rintro e u3 ⟨rfl, hn⟩
      replace hA := hA.keep hn
      replace hb := below_step hb hn
      clear hn
      go_upto_region 7 with ((with_reducible refine wpl_guard ?_); first | (refine wpl_alloc_arr rfl 27 rfl _ zPoly ?_) | (refine wpl_store_new rfl 27 _ _ rfl _ rfl rfl _ rfl sPoly (by simp only [u8s_size]) (u8s_oneCell _ _) ?_))
      have hV := Blk.newAt (w := u3) (n := u3.heap.size) rfl (u8s 64 (derF p f)) 27
      replace hA := hA.alloc (.cells (u8s 64 (derF p f)) 27)
      replace hb := below_step hb (below_new u3 (.cells (u8s 64 (derF p f)) 27))
      go_wp2_with ((with_reducible refine wpl_guard ?_); first | (refine wpl_load_arr rfl 27 _ rfl _ rfl _ _ hA _ _ uPoly sPoly ?_) | (refine wpl_load_arr rfl 27 _ rfl _ rfl _ _ hV _ _ uPoly sPoly ?_))
      refine (hgcH.out _).mono ?_
      rintro e u4 ⟨rfl, hn⟩
      replace hA := hA.keep hn
      replace hb := below_step hb hn
      clear hn
      go_wp2_with fail
      refine (hdeg2H.out _).mono ?_
      rintro e u5 ⟨rfl, hn⟩
      replace hA := hA.keep hn
      replace hb := below_step hb hn
      clear hn
      go_wp2_with fail
      go_ret
      exact ⟨rfl, hb⟩
  ·
    have hF := hfinH.out (by simp at h1; omega)
    have hdeg2 := fun w => l01Deg_list p _ w hF.1
    obtain ⟨L, hL⟩ : ∃ L, (dgc p f).length = L := ⟨_, rfl⟩
    have hF2 := hF.2
    rw [hL] at hdeg2 hF2
    have hb2 : ((L : Int) - 1 == 0) = b := by
      cases b
      · rw [beq_eq_false_iff_ne]; intro e; exact absurd (hF2.1 (by omega)) (by simp)
      · have := hF2.2 rfl; rw [this]; rfl
    have hdeg2H := Lib.hid hdeg2
    clear hF hdeg2 hF2 hL
    obtain rfl : n = 1 := by simpa using h1
    clear h1 h3 h5
    go_wp2_with ((with_reducible refine wpl_guard ?_); first | (refine wpl_load_arr rfl 27 _ rfl _ rfl _ _ hA _ _ uPoly sPoly ?_))
    refine (hdvH.out _).mono ?_
    rintro e u3 ⟨rfl, hn⟩
    replace hA := hA.keep hn
    replace hb := below_step hb hn
    clear hn
    go_upto_region 7 with ((with_reducible refine wpl_guard ?_); first | (refine wpl_alloc_arr rfl 27 rfl _ zPoly ?_) | (refine wpl_store_new rfl 27 _ _ rfl _ rfl rfl _ rfl sPoly (by simp only [u8s_size]) (u8s_oneCell _ _) ?_))
    have hV := Blk.newAt (w := u3) (n := u3.heap.size) rfl (u8s 64 (derF p f)) 27
    replace hA := hA.alloc (.cells (u8s 64 (derF p f)) 27)
    replace hb := below_step hb (below_new u3 (.cells (u8s 64 (derF p f)) 27))
    go_wp2_with ((with_reducible refine wpl_guard ?_); first | (refine wpl_load_arr rfl 27 _ rfl _ rfl _ _ hA _ _ uPoly sPoly ?_) | (refine wpl_load_arr rfl 27 _ rfl _ rfl _ _ hV _ _ uPoly sPoly ?_))
    refine (hgcH.out _).mono ?_
    rintro e u4 ⟨rfl, hn⟩
    replace hA := hA.keep hn
    replace hb := below_step hb hn
    clear hn
    go_wp2_with fail
    refine (hdeg2H.out _).mono ?_
    rintro e u5 ⟨rfl, hn⟩
    replace hA := hA.keep hn
    replace hb := below_step hb hn
    clear hn
    go_wp2_with fail
    go_ret
    exact ⟨rfl, hb⟩

set_option maxRecDepth 20000 in
set_option maxHeartbeats 2000000 in
theorem implDisc_any (f : Nat → Int) (p : Int) (b : Bool) (w : World) (hf : By f) (hd : Disc p f ↔ b = true) :
    Calls Try.prog 31 #[.int .i64 p, .agg (u8s 64 f)] w fun e w' => e = .returned (.bool b) ∧ Below w.heap.size w w' := by
  have hfH := Lib.hid hf
  have hD := Lib.hid hd
  clear hf hd
  obtain ⟨hb, hA⟩ := boxes1 w (u8s 64 f) 27
  obtain ⟨q, hq⟩ : ∃ q, decide ((∀ i : Nat, i < 64 → f i < p) ∧ Pr p) = q := ⟨_, rfl⟩
  have hqH := Lib.hid hq
  clear hq
  go_enter Try.func31, Try.ntmps31
  go_wp2_with ((with_reducible refine wpl_guard ?_); first | (refine wpl_load_arr rfl 27 _ rfl _ rfl _ _ hA _ _ uPoly sPoly ?_))
  refine (rowOf_any f _ hfH.out.on).mono ?_
  rintro e u0 ⟨vr, rfl, hr, hn⟩
  replace hA := hA.keep hn
  replace hb := below_step hb hn
  have hrH := Lib.hid hr
  clear hn hr
  go_wp2_with ((with_reducible refine wpl_guard ?_); first | (refine wpl_load_arr rfl 27 _ rfl _ rfl _ _ hA _ _ uPoly sPoly ?_))
  refine (implIsPoly7_any f p _ hfH.out.on q hqH.out).mono ?_
  rintro e u2 ⟨rfl, hn⟩
  replace hA := hA.keep hn
  replace hb := below_step hb hn
  replace hrH := Lib.hid (hrH.out.below hn)
  clear hn
  obtain ⟨n, hn9⟩ : ∃ n, ((mkp 64 f).length : Int) - 1 = n := ⟨_, rfl⟩
  have hDg := hD.out
  unfold Disc at hDg
  have hdeg : ((mkp 64 f).length = 2 ∨ (mkp 64 f).length = 4 ∨ (mkp 64 f).length = 6) ↔ (n = 1 ∨ n = 3 ∨ n = 5) := by omega
  rw [hdeg] at hDg
  have hneH : n = 1 ∨ n = 3 ∨ n = 5 → mkp 64 f ≠ [] := fun h e => by rw [e] at hn9; simp at hn9; omega
  have hDgH := Lib.hid hDg
  have hneH2 := Lib.hid hneH
  have hn9H := Lib.hid hn9
  clear hdeg hDg hneH hn9
  have hdgH := Lib.hid (fun w (h : IsRow w vr (mkp 64 f)) => degree_any vr _ w h)
  rw [hn9H.out] at hdgH
  cases q
  ·
    have hbf : b = false := by
      cases b
      · rfl
      · exact absurd (hDgH.out.2 rfl) (fun h => of_decide_eq_false hqH.out h.1.1)
    subst hbf
    go_wp2_with fail
    go_ret
    exact ⟨rfl, hb⟩
  have hq1 := of_decide_eq_true hqH.out
  have hpr := hq1.2
  obtain ⟨e2, he2⟩ : ∃ e, (p == 2) = e := ⟨_, rfl⟩
  cases e2
  case' true =>
    have hbf : b = false := by
      cases b
      · rfl
      · exact absurd (hDgH.out.2 rfl) (fun h => h.1.2 (by simpa using he2))
    subst hbf
    go_wp2_with fail
    go_ret
    exact ⟨rfl, hb⟩
  have hp2n : p ≠ 2 := by simpa using he2
  obtain ⟨e1, h1⟩ : ∃ e, (n == 1) = e := ⟨_, rfl⟩
  obtain ⟨e3, h3⟩ : ∃ e, (n == 3) = e := ⟨_, rfl⟩
  obtain ⟨e5, h5⟩ : ∃ e, (n == 5) = e := ⟨_, rfl⟩
  have hG : Good p [f] ↔ true = true := ⟨fun _ => rfl, fun _ => ⟨hpr, fun g hg i hi => by rw [List.mem_singleton] at hg; subst hg; exact hq1.1 i hi⟩⟩
  have hdv := fun w => implDerivativeOf_any f p w hfH.out true hG
  have hx : P64 p (mkp 64 f) := ⟨hpr, ⟨mkp_Tr _ _, Md_mkp (by have := hpr.pos; omega) fun i hi => ⟨(hfH.out i).1, hq1.1 i hi⟩⟩, mkp_length _ _⟩
  have hy := derF_P64 hpr f
  have hro := fun w => rowOf_any (derF p f) w (fun i _ => hy.2 i)
  have hgc : (n = 1 ∨ n = 3 ∨ n = 5) → ∀ va vb w, IsRow w va (mkp 64 f) → IsRow w vb (mkp 64 (derF p f)) → Calls Try.prog 22 #[.int .i64 p, va, vb] w fun e w' => ∃ v, e = .returned v ∧ IsRow w' v (dgc p f) ∧ Below w.heap.size w w' := fun hn va vb w h1 h2 => by
    have := gcd_any va vb _ _ p w hpr h1 h2 hx.po hy.1.po (.inl (hneH2.out hn)) hx.le hy.1.le
    rwa [← (dgc_one hpr hx (hneH2.out hn)).1] at this
  simp only [if_true] at hdv
  have hdvH := Lib.hid hdv
  have hgcH := Lib.hid hgc
  have hroH := Lib.hid hro
  have hfin : (n = 1 ∨ n = 3 ∨ n = 5) → decide (dgc p f = [1]) = b := fun hn => by
    have h : dgc p f = [1] ↔ b = true := by rw [← hDgH.out]; exact ⟨fun h => ⟨⟨hq1, hp2n⟩, hn, h⟩, fun h => h.2.2⟩
    cases b
    · exact decide_eq_false fun e => absurd (h.1 e) (by simp)
    · exact decide_eq_true (h.2 rfl)
  have hno : ¬ (n = 1 ∨ n = 3 ∨ n = 5) → b = false := fun hn => by
    cases b
    · rfl
    · exact absurd (hDgH.out.2 rfl).2.1 hn
  have hfinH := Lib.hid hfin
  have hnoH := Lib.hid hno
  clear hG hdv hx hy hgc hro hfin hno hq1 hpr hp2n
  cases e1
  · cases e3
    · cases e5
      ·
        have hbf := hnoH.out (by simp only [beq_eq_false_iff_ne] at h1 h3 h5; omega)
        subst hbf
        have k1 : ¬ n = 1 := by simpa using h1
        have k3 : ¬ n = 3 := by simpa using h3
        have k5 : ¬ n = 5 := by simpa using h5
        have m1 : (n != 1) = true := by rw [bne, h1]; rfl
        have m3 : (n != 3) = true := by rw [bne, h3]; rfl
        have m5 : (n != 5) = true := by rw [bne, h5]; rfl
        go_wp2_with fail
        refine (hdgH.out _ hrH.out).mono ?_
        rintro e v91 ⟨rfl, rfl⟩
        go_wp2_with fail
        refine (hdgH.out _ hrH.out).mono ?_
        rintro e v92 ⟨rfl, rfl⟩
        go_wp2_with fail
        refine (hdgH.out _ hrH.out).mono ?_
        rintro e v93 ⟨rfl, rfl⟩
        go_wp2_with fail
        go_ret
        exact ⟨rfl, hb⟩
      ·
        have hF := Lib.hid (hfinH.out (by simp at h5; omega))
        have hgcN := Lib.hid (hgcH.out (by simp at h5; omega))
        obtain rfl : n = 5 := by simpa using h5
        clear h1 h3 h5
        go_wp2_with fail
        refine (hdgH.out _ hrH.out).mono ?_
        rintro e v94 ⟨rfl, rfl⟩
        go_wp2_with fail
        refine (hdgH.out _ hrH.out).mono ?_
        rintro e v95 ⟨rfl, rfl⟩
        go_wp2_with fail
        refine (hdgH.out _ hrH.out).mono ?_
        rintro e v96 ⟨rfl, rfl⟩
        go_wp2_with ((with_reducible refine wpl_guard ?_); first | (refine wpl_load_arr rfl 27 _ rfl _ rfl _ _ hA _ _ uPoly sPoly ?_))
        refine (hdvH.out _).mono ?_
        rintro e y9 ⟨rfl, hn⟩
        replace hA := hA.keep hn
        replace hb := below_step hb hn
        replace hrH := Lib.hid (hrH.out.below hn)
        clear hn
        go_upto_region 5 with ((with_reducible refine wpl_guard ?_); first | (refine wpl_alloc_arr rfl 27 rfl _ zPoly ?_) | (refine wpl_store_new rfl 27 _ _ rfl _ rfl rfl _ rfl sPoly (by simp only [u8s_size]) (u8s_oneCell _ _) ?_))
        have hV := Blk.newAt (w := y9) (n := y9.heap.size) rfl (u8s 64 (derF p f)) 27
        have hn := below_new y9 (.cells (u8s 64 (derF p f)) 27)
        replace hb := below_step hb hn
        replace hrH := Lib.hid (hrH.out.below hn)
        clear hn
        go_wp2_with ((with_reducible refine wpl_guard ?_); first | (refine wpl_load_arr rfl 27 _ rfl _ rfl _ _ hV _ _ uPoly sPoly ?_))
        refine (hroH.out _).mono ?_
        rintro e y0 ⟨vd, rfl, hr, hn⟩
        replace hb := below_step hb hn
        replace hrH := Lib.hid (hrH.out.below hn)
        have hdH := Lib.hid hr
        clear hn hr
        go_wp2_with fail
        refine (hgcN.out _ _ _ hrH.out hdH.out).mono ?_
        rintro e y1 ⟨vg, rfl, hr, hn⟩
        replace hb := below_step hb hn
        have hgH := Lib.hid hr
        clear hn hr
        go_wp2_with fail
        refine (isOne_any _ _ _ hgH.out b hF.out).mono ?_
        rintro e y2 ⟨rfl, rfl⟩
        go_wp2_with fail
        go_ret
        exact ⟨rfl, hb⟩
    ·
      have hF := Lib.hid (hfinH.out (by simp at h3; omega))
      have hgcN := Lib.hid (hgcH.out (by simp at h3; omega))
      obtain rfl : n = 3 := by simpa using h3
      clear h1 h3 h5
      go_wp2_with fail
      refine (hdgH.out _ hrH.out).mono ?_
      rintro e v97 ⟨rfl, rfl⟩
      go_wp2_with fail
      refine (hdgH.out _ hrH.out).mono ?_
      rintro e v98 ⟨rfl, rfl⟩
      go_wp2_with ((with_reducible refine wpl_guard ?_); first | (refine wpl_load_arr rfl 27 _ rfl _ rfl _ _ hA _ _ uPoly sPoly ?_))
      refine (hdvH.out _).mono ?_
      rintro e y9 ⟨rfl, hn⟩
      replace hA := hA.keep hn
      replace hb := below_step hb hn
      replace hrH := Lib.hid (hrH.out.below hn)
      clear hn
      go_upto_region 5 with ((with_reducible refine wpl_guard ?_); first | (refine wpl_alloc_arr rfl 27 rfl _ zPoly ?_) | (refine wpl_store_new rfl 27 _ _ rfl _ rfl rfl _ rfl sPoly (by simp only [u8s_size]) (u8s_oneCell _ _) ?_))
      have hV := Blk.newAt (w := y9) (n := y9.heap.size) rfl (u8s 64 (derF p f)) 27
      have hn := below_new y9 (.cells (u8s 64 (derF p f)) 27)
      replace hb := below_step hb hn
      replace hrH := Lib.hid (hrH.out.below hn)
      clear hn
      go_wp2_with ((with_reducible refine wpl_guard ?_); first | (refine wpl_load_arr rfl 27 _ rfl _ rfl _ _ hV _ _ uPoly sPoly ?_))
      refine (hroH.out _).mono ?_
      rintro e y0 ⟨vd, rfl, hr, hn⟩
      replace hb := below_step hb hn
      replace hrH := Lib.hid (hrH.out.below hn)
      have hdH := Lib.hid hr
      clear hn hr
      go_wp2_with fail
      refine (hgcN.out _ _ _ hrH.out hdH.out).mono ?_
      rintro e y1 ⟨vg, rfl, hr, hn⟩
      replace hb := below_step hb hn
      have hgH := Lib.hid hr
      clear hn hr
      go_wp2_with fail
      refine (isOne_any _ _ _ hgH.out b hF.out).mono ?_
      rintro e y2 ⟨rfl, rfl⟩
      go_wp2_with fail
      go_ret
      exact ⟨rfl, hb⟩
  ·
    have hF := Lib.hid (hfinH.out (by simp at h1; omega))
    have hgcN := Lib.hid (hgcH.out (by simp at h1; omega))
    obtain rfl : n = 1 := by simpa using h1
    clear h1 h3 h5
    go_wp2_with fail
    refine (hdgH.out _ hrH.out).mono ?_
    rintro e v99 ⟨rfl, rfl⟩
    go_wp2_with ((with_reducible refine wpl_guard ?_); first | (refine wpl_load_arr rfl 27 _ rfl _ rfl _ _ hA _ _ uPoly sPoly ?_))
    refine (hdvH.out _).mono ?_
    rintro e y9 ⟨rfl, hn⟩
    replace hA := hA.keep hn
    replace hb := below_step hb hn
    replace hrH := Lib.hid (hrH.out.below hn)
    clear hn
    go_upto_region 5 with ((with_reducible refine wpl_guard ?_); first | (refine wpl_alloc_arr rfl 27 rfl _ zPoly ?_) | (refine wpl_store_new rfl 27 _ _ rfl _ rfl rfl _ rfl sPoly (by simp only [u8s_size]) (u8s_oneCell _ _) ?_))
    have hV := Blk.newAt (w := y9) (n := y9.heap.size) rfl (u8s 64 (derF p f)) 27
    have hn := below_new y9 (.cells (u8s 64 (derF p f)) 27)
    replace hb := below_step hb hn
    replace hrH := Lib.hid (hrH.out.below hn)
    clear hn
    go_wp2_with ((with_reducible refine wpl_guard ?_); first | (refine wpl_load_arr rfl 27 _ rfl _ rfl _ _ hV _ _ uPoly sPoly ?_))
    refine (hroH.out _).mono ?_
    rintro e y0 ⟨vd, rfl, hr, hn⟩
    replace hb := below_step hb hn
    replace hrH := Lib.hid (hrH.out.below hn)
    have hdH := Lib.hid hr
    clear hn hr
    go_wp2_with fail
    refine (hgcN.out _ _ _ hrH.out hdH.out).mono ?_
    rintro e y1 ⟨vg, rfl, hr, hn⟩
    replace hb := below_step hb hn
    have hgH := Lib.hid hr
    clear hn hr
    go_wp2_with fail
    refine (isOne_any _ _ _ hgH.out b hF.out).mono ?_
    rintro e y2 ⟨rfl, rfl⟩
    go_wp2_with fail
    go_ret
    exact ⟨rfl, hb⟩

end Go.Proofs.Ytohgjihccjnheab
