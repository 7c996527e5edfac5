/- Walks: what a polynomial leads a vector to. -/
import Derived.Test.YtnkkkgaojhkniaaM8
set_option linter.unusedVariables false
set_option linter.unusedSimpArgs false
namespace Go.Proofs.Ytnkkkgaojhkniaa
open Go.RowKit

/-- The rows of a matrix as lists. -/
def rowsL (F : Nat → Int) (i : Nat) : List Int := if i < 6 then mkp 6 (fun c => F (i * 6 + c)) else []
theorem mkp6_Po {p : Int} {f : Nat → Int} (hp : Pr p) (hf : By f) (h : ∀ j, j < 6 → f j < p) : Po p (mkp 6 f) :=
  ⟨mkp_Tr _ _, Md_mkp (by have := hp.pos; omega) fun i hi => ⟨(hf i).1, h i hi⟩⟩
theorem mkp64_Po {p : Int} {f : Nat → Int} (hp : Pr p) (hf : By f) (h : ∀ j, j < 64 → f j < p) : P64 p (mkp 64 f) :=
  ⟨hp, ⟨mkp_Tr _ _, Md_mkp (by have := hp.pos; omega) fun i hi => ⟨(hf i).1, h i hi⟩⟩, mkp_length _ _⟩
theorem mkp6_len {p : Int} {f : Nat → Int} {n : Nat} (h : Po p (mkp 6 f)) (hz : ∀ j, n ≤ j → j < 6 → f j = 0) : (mkp 6 f).length ≤ n := by
  by_cases h0 : (mkp 6 f).length ≤ n
  · exact h0
  · have h1 := h.lead_len (by omega)
    have h2 := mkp_length 6 f
    rw [mkp_cf, if_pos (by omega), hz _ (by omega) (by omega)] at h1
    omega
theorem RowOk.r6 {p : Int} {n : Nat} {f : Nat → Int} (hp : Pr p) (hf : By f) (h : RowOk p n f) : R6 p (mkp 6 f) ∧ (mkp 6 f).length ≤ n := by
  have h1 := mkp6_Po hp hf fun j hj => (h j hj).1
  exact ⟨⟨hp, h1, mkp_length 6 f⟩, mkp6_len h1 fun j hn hj => (h j hj).2 (by omega)⟩
theorem SqOk.mx {p : Int} {n : Nat} {F : Nat → Int} (hF : By F) (h : SqOk p n F) : Mx p n F (rowsL F) := by
  have h1 : ∀ i, i < 6 → R6 p (mkp 6 (fun c => F (i * 6 + c))) ∧ (mkp 6 (fun c => F (i * 6 + c))).length ≤ n := fun i hi => RowOk.r6 h.1 (fun c => hF _) (h.2.2 i hi).1
  refine ⟨h.1, by have := h.2.1; omega, fun i => ?_, fun i => ?_, fun i j hi hj => ?_⟩
  · unfold rowsL; split
    · exact (h1 i ‹_›).1.po
    · exact Po_nil (by have := h.1.pos; omega)
  · unfold rowsL; split
    · exact (h1 i ‹_›).2
    · simp
  · unfold rowsL
    rw [if_pos (by have := h.2.1; omega), mkp_cf, if_pos hj]
theorem u8s_mkp6 (f : Nat → Int) : u8s 6 f = u8s 6 (cf (mkp 6 f)) := u8s_ext fun i hi => by rw [mkp_cf, if_pos hi]
theorem matrix_rows (F : Nat → Int) (n : Nat) (w : World) (hF : By F) (hn : n ≤ 6) : Calls Try.prog 52 #[.int .i64 n, .agg (u8s 36 F)] w fun e w' => ∃ v, e = .returned v ∧ IsRows w' v n (rowsL F) ∧ Below w.heap.size w w' :=
  (matrix_any F n w hF hn).mono fun e w' ⟨v, h1, ⟨R, oa, cap, e1, e2, e3, e4, e5⟩, h3⟩ => ⟨v, h1, ⟨R, oa, cap, e1, e2, e3, e4, fun i hi => by unfold rowsL; rw [if_pos (by omega)]; exact e5 i hi⟩, h3⟩

def apsF (b q t : Bool) (p : Int) (F f g : Nat → Int) : Nat → Int := if b && q && t then cf (horL p (rowsL F) (mkp 6 g) (mkp 64 f)) else fun _ => 0
def apsC (b q t : Bool) : Int := if b && q && t then 0 else 1
theorem apsF_no {b q t : Bool} (h : b = false ∨ q = false ∨ t = false) (p : Int) (F f g : Nat → Int) : u8s 6 (apsF b q t p F f g) = u8s 6 (fun _ => 0) ∧ apsC b q t = 1 := by
  have : (b && q && t) = false := by rcases h with h | h | h <;> rw [h] <;> simp
  unfold apsF apsC; rw [this]; exact ⟨rfl, rfl⟩

set_option maxRecDepth 20000 in
set_option maxHeartbeats 2000000 in
theorem specApplySquare_any (F f g : Nat → Int) (p n : Int) (b q t : Bool) (w : World) (hF : By F) (hf : By f) (hg : By g) (hb : SqOk p n F ↔ b = true) (hq : decide (∀ i : Nat, i < 64 → f i < p) = q) (ht : RowOk p n g ↔ t = true) :
    Calls Try.prog 19 #[.int .i64 p, .int .i64 n, .agg (u8s 36 F), .agg (u8s 64 f), .agg (u8s 6 g)] w fun e w' => e = .returned (.tuple #[.agg (u8s 6 (apsF b q t p F f g)), .int .i64 (apsC b q t)]) ∧ Below w.heap.size w w' := by
  have hFH := Lib.hid hF
  have hfH := Lib.hid hf
  have hgH := Lib.hid hg
  have hbH := Lib.hid hb
  have hqH := Lib.hid hq
  have htH := Lib.hid ht
  have hz1 := Lib.hid (@apsF_no b q t)
  clear hF hf hg hb hq ht
  obtain ⟨hb, hA, hD, hV, hZ⟩ := boxes4 w (u8s 36 F) (u8s 64 f) (u8s 6 g) (u8s 6 fun _ => 0) 27 33 25 25
  go_enter Try.func19, Try.ntmps19
  go_wp2_with ((with_reducible refine wpl_guard ?_); first | (refine wpl_load_arr rfl 27 _ rfl _ rfl _ _ hA _ _ uSquare sSquare ?_) | (refine wpl_load_arr rfl 33 _ rfl _ rfl _ _ hD _ _ uPoly sPoly ?_) | (refine wpl_load_arr rfl 25 _ rfl _ rfl _ _ hV _ _ uRow sRow ?_) | (refine wpl_alloc_arr rfl 25 rfl _ zRow ?_))
  refine (l05Is_any p n F b _ hFH.out hbH.out).mono ?_
  rintro e u1 ⟨rfl, hn⟩
  replace hA := hA.keep hn
  replace hD := hD.keep hn
  replace hV := hV.keep hn
  replace hZ := hZ.keep hn
  replace hb := below_step hb hn
  clear hn
  cases b
  · go_wp2_with ((with_reducible refine wpl_guard ?_); first | (refine wpl_build_zero rfl 25 6 5 rfl _ uRow sByte zRow ?_) | (refine wpl_store_arr rfl 25 _ _ rfl _ rfl _ rfl _ _ hZ sRow (by simp only [u8s_size]) (u8s_oneCell _ _) ?_))
    exact bodyPost_ret (res_ct (x := .int .i64 1) rfl rfl (hZ.setRow_same (cs := u8s 6 fun _ => 0)) uRow sRow rfl) rfl ⟨by rw [(apsF_no (.inl rfl) p F f g).1, (apsF_no (.inl rfl) p F f g).2], below_setRow hb (by omega) _⟩
  have hS := hbH.out.2 (by first | rfl | trivial)
  have hSH := Lib.hid hS
  clear hS
  have hq2 : decide ((∀ i : Nat, i < 64 → f i < p) ∧ Pr p) = q := by rw [← hqH.out]; exact decide_eq_decide.2 ⟨fun h => h.1, fun h => ⟨h, hSH.out.1⟩⟩
  have hq2H := Lib.hid hq2
  clear hq2
  go_wp2_with ((with_reducible refine wpl_guard ?_); first | (refine wpl_load_arr rfl 27 _ rfl _ rfl _ _ hA _ _ uSquare sSquare ?_) | (refine wpl_load_arr rfl 33 _ rfl _ rfl _ _ hD _ _ uPoly sPoly ?_) | (refine wpl_load_arr rfl 25 _ rfl _ rfl _ _ hV _ _ uRow sRow ?_) | (refine wpl_alloc_arr rfl 25 rfl _ zRow ?_))
  refine (l01Is_any f p _ hfH.out.on q hq2H.out).mono ?_
  rintro e u2 ⟨rfl, hn⟩
  replace hA := hA.keep hn
  replace hD := hD.keep hn
  replace hV := hV.keep hn
  replace hZ := hZ.keep hn
  replace hb := below_step hb hn
  clear hn
  cases q
  · go_wp2_with ((with_reducible refine wpl_guard ?_); first | (refine wpl_build_zero rfl 25 6 5 rfl _ uRow sByte zRow ?_) | (refine wpl_store_arr rfl 25 _ _ rfl _ rfl _ rfl _ _ hZ sRow (by simp only [u8s_size]) (u8s_oneCell _ _) ?_))
    exact bodyPost_ret (res_ct (x := .int .i64 1) rfl rfl (hZ.setRow_same (cs := u8s 6 fun _ => 0)) uRow sRow rfl) rfl ⟨by rw [(apsF_no (.inr (.inl rfl)) p F f g).1, (apsF_no (.inr (.inl rfl)) p F f g).2], below_setRow hb (by omega) _⟩
  go_wp2_with ((with_reducible refine wpl_guard ?_); first | (refine wpl_load_arr rfl 27 _ rfl _ rfl _ _ hA _ _ uSquare sSquare ?_) | (refine wpl_load_arr rfl 33 _ rfl _ rfl _ _ hD _ _ uPoly sPoly ?_) | (refine wpl_load_arr rfl 25 _ rfl _ rfl _ _ hV _ _ uRow sRow ?_) | (refine wpl_alloc_arr rfl 25 rfl _ zRow ?_))
  refine (l05Row_any p n g _ hgH.out t htH.out).mono ?_
  rintro e u3 ⟨rfl, hn⟩
  replace hA := hA.keep hn
  replace hD := hD.keep hn
  replace hV := hV.keep hn
  replace hZ := hZ.keep hn
  replace hb := below_step hb hn
  clear hn
  cases t
  · go_wp2_with ((with_reducible refine wpl_guard ?_); first | (refine wpl_build_zero rfl 25 6 5 rfl _ uRow sByte zRow ?_) | (refine wpl_store_arr rfl 25 _ _ rfl _ rfl _ rfl _ _ hZ sRow (by simp only [u8s_size]) (u8s_oneCell _ _) ?_))
    exact bodyPost_ret (res_ct (x := .int .i64 1) rfl rfl (hZ.setRow_same (cs := u8s 6 fun _ => 0)) uRow sRow rfl) rfl ⟨by rw [(apsF_no (.inr (.inr rfl)) p F f g).1, (apsF_no (.inr (.inr rfl)) p F f g).2], below_setRow hb (by omega) _⟩
  obtain ⟨N, hN⟩ := Int.eq_ofNat_of_zero_le (show 0 ≤ n by have := hSH.out.2.1; omega)
  subst hN
  have hMx := hSH.out.mx hFH.out
  have hr6 := RowOk.r6 hMx.pr hgH.out (htH.out.2 (by first | rfl | trivial))
  have hpa := mkp64_Po hMx.pr hfH.out (of_decide_eq_true hqH.out)
  have he : apsF true true true p F f g = cf (horL p (rowsL F) (mkp 6 g) (mkp 64 f)) := rfl
  have heH := Lib.hid he
  have hac := fun w => l05Apply_any p N F (rowsL F) (mkp 64 f) (mkp 6 g) w hMx hpa hr6.1 hr6.2
  rw [← u8s_mkp, ← u8s_mkp6] at hac
  obtain ⟨H, hH⟩ : ∃ H, horL p (rowsL F) (mkp 6 g) (mkp 64 f) = H := ⟨_, rfl⟩
  rw [hH] at hac he
  have hacH := Lib.hid hac
  have he2 := Lib.hid he
  clear hac hH hMx hr6 hpa he heH hSH hqH htH hbH hz1
  go_wp2_with ((with_reducible refine wpl_guard ?_); first | (refine wpl_load_arr rfl 27 _ rfl _ rfl _ _ hA _ _ uSquare sSquare ?_) | (refine wpl_load_arr rfl 33 _ rfl _ rfl _ _ hD _ _ uPoly sPoly ?_) | (refine wpl_load_arr rfl 25 _ rfl _ rfl _ _ hV _ _ uRow sRow ?_) | (refine wpl_alloc_arr rfl 25 rfl _ zRow ?_))
  refine (hacH.out _).mono ?_
  rintro e u4 ⟨rfl, hn⟩
  replace hA := hA.keep hn
  replace hD := hD.keep hn
  replace hV := hV.keep hn
  replace hZ := hZ.keep hn
  replace hb := below_step hb hn
  clear hn
  go_wp2_with ((with_reducible refine wpl_guard ?_); first | (refine wpl_store_arr rfl 25 _ _ rfl _ rfl _ rfl _ _ hZ sRow (by simp only [u8s_size]) (u8s_oneCell _ _) ?_))
  exact bodyPost_ret (res_ct (x := .int .i64 0) rfl rfl (hZ.setRow_same (cs := u8s 6 (cf H))) uRow sRow rfl) rfl ⟨by rw [he2.out]; rfl, below_setRow hb (by omega) _⟩

set_option maxRecDepth 20000 in
set_option maxHeartbeats 2000000 in
theorem implApplySquare_any (F f g : Nat → Int) (p n : Int) (b q t : Bool) (w : World) (hF : By F) (hf : By f) (hg : By g) (hb : SqOk p n F ↔ b = true) (hq : decide (∀ i : Nat, i < 64 → f i < p) = q) (ht : RowOk p n g ↔ t = true) :
    Calls Try.prog 21 #[.int .i64 p, .int .i64 n, .agg (u8s 36 F), .agg (u8s 64 f), .agg (u8s 6 g)] w fun e w' => e = .returned (.tuple #[.agg (u8s 6 (apsF b q t p F f g)), .int .i64 (apsC b q t)]) ∧ Below w.heap.size w w' := by
  have hFH := Lib.hid hF
  have hfH := Lib.hid hf
  have hgH := Lib.hid hg
  have hbH := Lib.hid hb
  have hqH := Lib.hid hq
  have htH := Lib.hid ht
  have hz1 := Lib.hid (@apsF_no b q t)
  clear hF hf hg hb hq ht
  obtain ⟨hb, hA, hD, hV, hZ⟩ := boxes4 w (u8s 36 F) (u8s 64 f) (u8s 6 g) (u8s 6 fun _ => 0) 27 33 25 25
  go_enter Try.func21, Try.ntmps21
  go_wp2_with ((with_reducible refine wpl_guard ?_); first | (refine wpl_load_arr rfl 27 _ rfl _ rfl _ _ hA _ _ uSquare sSquare ?_) | (refine wpl_load_arr rfl 33 _ rfl _ rfl _ _ hD _ _ uPoly sPoly ?_) | (refine wpl_load_arr rfl 25 _ rfl _ rfl _ _ hV _ _ uRow sRow ?_) | (refine wpl_alloc_arr rfl 25 rfl _ zRow ?_))
  refine (implIsSquare_any p n F b _ hFH.out hbH.out).mono ?_
  rintro e u1 ⟨rfl, hn⟩
  replace hA := hA.keep hn
  replace hD := hD.keep hn
  replace hV := hV.keep hn
  replace hZ := hZ.keep hn
  replace hb := below_step hb hn
  clear hn
  cases b
  · go_wp2_with ((with_reducible refine wpl_guard ?_); first | (refine wpl_build_zero rfl 25 6 5 rfl _ uRow sByte zRow ?_) | (refine wpl_store_arr rfl 25 _ _ rfl _ rfl _ rfl _ _ hZ sRow (by simp only [u8s_size]) (u8s_oneCell _ _) ?_))
    exact bodyPost_ret (res_ct (x := .int .i64 1) rfl rfl (hZ.setRow_same (cs := u8s 6 fun _ => 0)) uRow sRow rfl) rfl ⟨by rw [(apsF_no (.inl rfl) p F f g).1, (apsF_no (.inl rfl) p F f g).2], below_setRow hb (by omega) _⟩
  have hS := hbH.out.2 (by first | rfl | trivial)
  have hSH := Lib.hid hS
  clear hS
  go_wp2_with ((with_reducible refine wpl_guard ?_); first | (refine wpl_load_arr rfl 27 _ rfl _ rfl _ _ hA _ _ uSquare sSquare ?_) | (refine wpl_load_arr rfl 33 _ rfl _ rfl _ _ hD _ _ uPoly sPoly ?_) | (refine wpl_load_arr rfl 25 _ rfl _ rfl _ _ hV _ _ uRow sRow ?_) | (refine wpl_alloc_arr rfl 25 rfl _ zRow ?_))
  refine (isRow_any p n g _ hgH.out t htH.out).mono ?_
  rintro e u2 ⟨rfl, hn⟩
  replace hA := hA.keep hn
  replace hD := hD.keep hn
  replace hV := hV.keep hn
  replace hZ := hZ.keep hn
  replace hb := below_step hb hn
  clear hn
  cases t
  · go_wp2_with ((with_reducible refine wpl_guard ?_); first | (refine wpl_build_zero rfl 25 6 5 rfl _ uRow sByte zRow ?_) | (refine wpl_store_arr rfl 25 _ _ rfl _ rfl _ rfl _ _ hZ sRow (by simp only [u8s_size]) (u8s_oneCell _ _) ?_))
    exact bodyPost_ret (res_ct (x := .int .i64 1) rfl rfl (hZ.setRow_same (cs := u8s 6 fun _ => 0)) uRow sRow rfl) rfl ⟨by rw [(apsF_no (.inr (.inr rfl)) p F f g).1, (apsF_no (.inr (.inr rfl)) p F f g).2], below_setRow hb (by omega) _⟩
  go_wp2_with ((with_reducible refine wpl_guard ?_); first | (refine wpl_load_arr rfl 27 _ rfl _ rfl _ _ hA _ _ uSquare sSquare ?_) | (refine wpl_load_arr rfl 33 _ rfl _ rfl _ _ hD _ _ uPoly sPoly ?_) | (refine wpl_load_arr rfl 25 _ rfl _ rfl _ _ hV _ _ uRow sRow ?_) | (refine wpl_alloc_arr rfl 25 rfl _ zRow ?_))
  refine (isPoly_any f p _ hfH.out.on q hqH.out).mono ?_
  rintro e u3 ⟨rfl, hn⟩
  replace hA := hA.keep hn
  replace hD := hD.keep hn
  replace hV := hV.keep hn
  replace hZ := hZ.keep hn
  replace hb := below_step hb hn
  clear hn
  cases q
  · go_wp2_with ((with_reducible refine wpl_guard ?_); first | (refine wpl_build_zero rfl 25 6 5 rfl _ uRow sByte zRow ?_) | (refine wpl_store_arr rfl 25 _ _ rfl _ rfl _ rfl _ _ hZ sRow (by simp only [u8s_size]) (u8s_oneCell _ _) ?_))
    exact bodyPost_ret (res_ct (x := .int .i64 1) rfl rfl (hZ.setRow_same (cs := u8s 6 fun _ => 0)) uRow sRow rfl) rfl ⟨by rw [(apsF_no (.inr (.inl rfl)) p F f g).1, (apsF_no (.inr (.inl rfl)) p F f g).2], below_setRow hb (by omega) _⟩
  obtain ⟨N, hN⟩ := Int.eq_ofNat_of_zero_le (show 0 ≤ n by have := hSH.out.2.1; omega)
  subst hN
  have hMx := hSH.out.mx hFH.out
  have hr6 := RowOk.r6 hMx.pr hgH.out (htH.out.2 (by first | rfl | trivial))
  have hpa := mkp64_Po hMx.pr hfH.out (of_decide_eq_true hqH.out)
  have he : apsF true true true p F f g = cf (horL p (rowsL F) (mkp 6 g) (mkp 64 f)) := rfl
  have heH := Lib.hid he
  have hlen := horL_len (p := p) hMx.le hr6.2 (mkp 64 f)
  have hap := fun vs va vx w (h1 : IsRows w vs N (rowsL F)) (h2 : IsRow w va (mkp 64 f)) (h3 : IsRow w vx (mkp 6 g)) => apply_any vs va vx p N F (rowsL F) (mkp 64 f) (mkp 6 g) w hMx h1 h2 h3 hpa.po hr6.1.po hr6.2
  rw [apl_eq hMx.pr.pos.1] at hap
  have hHP := horL_Po hMx.pr.pos.1 (rowsL F) (mkp 6 g) (mkp 64 f)
  obtain ⟨H, hH⟩ : ∃ H, horL p (rowsL F) (mkp 6 g) (mkp 64 f) = H := ⟨_, rfl⟩
  rw [hH] at hap he hHP hlen
  have hn6 := hMx.n6
  have har := fun vx w (h : IsRow w vx H) => asRow_any vx H w h (By_of_Po hMx.pr hHP) (by omega)
  have hmt := fun w => matrix_rows F N w hFH.out hn6
  have hrw := fun w => rowOf_any f w hfH.out.on
  have hvc := fun w => vector_any g w (fun i _ => hgH.out i)
  have hapH := Lib.hid hap
  have harH := Lib.hid har
  have hmtH := Lib.hid hmt
  have hrwH := Lib.hid hrw
  have hvcH := Lib.hid hvc
  have he2 := Lib.hid he
  clear hap har hmt hrw hvc hlen hHP hH hMx hr6 hpa he heH hSH hqH htH hbH hz1
  go_upto_region 3 with (fail)
  go_upto_region 3 with (fail)
  refine gen_region (ws := w) (w := _) (B := w.heap.size) (by kernel_rfl) (by kernel_rfl) (by kernel_rfl) (by kernel_rfl)
      (fun i => ([fun zv _ => zv = .int .i64 p, fun zv _ => zv = .int .i64 N, fun zv _ => zv = .agg (u8s 36 F), fun v w => IsRows w v N (rowsL F), fun zv _ => zv = .agg (u8s 64 f), fun v w => IsRow w v (mkp 64 f), fun zv _ => zv = .agg (u8s 6 g), fun v w => IsRow w v (mkp 6 g), fun v w => IsRow w v (H), fun zv _ => zv = .agg (u8s 6 (cf H)), fun _ _ => True, fun zv _ => zv = .int .i64 0] : List (Value → World → Prop)).getD i (fun _ _ => True))
      (fun i => ([true, true, true, false, true, false, true, false, false, false, true, true] : List Bool).getD i true)
      1 (fun zk => [10].getD zk 0) (fun zk => [9].getD zk 0) (fun zk => [10].getD zk 0) (fun zk => [40].getD zk 0) (fun zk => [w.heap.size + 1 + 1 + 1].getD zk 0) (fun zk => [6].getD zk 0) (fun zk => [(cf H)].getD zk (fun _ => 0)) (fun zk => [(fun _ => 0)].getD zk (fun _ => 0)) (fun zk => [25].getD zk 0) hb (Nat.le_refl _)
      (fun w' => Blk w' (w.heap.size) (u8s 36 F) 27 ∧ Blk w' (w.heap.size + 1) (u8s 64 f) 33 ∧ Blk w' (w.heap.size + 1 + 1) (u8s 6 g) 25 ∧ True) ⟨hA.drew, hD.drew, hV.drew, trivial⟩ (fun w1 w2 h hb => ⟨h.1.keep hb, h.2.1.keep hb, h.2.2.1.keep hb, trivial⟩) ?_ ?_ ?_ ?_ ?_ ?_ ?_
  · intro k hk w1 cs h
    rcases k with _|k
    · exact ⟨h.1.setRow_other (by simp only [List.getD_cons_zero, List.getD_cons_succ] <;> omega), h.2.1.setRow_other (by simp only [List.getD_cons_zero, List.getD_cons_succ] <;> omega), h.2.2.1.setRow_other (by simp only [List.getD_cons_zero, List.getD_cons_succ] <;> omega), trivial⟩
    · omega
  · intro i v w1 w2 h hb
    rcases i with _|_|_|_|_|_|_|_|_|_|_|_|i
    · exact h
    · exact h
    · exact h
    · exact (show IsRows w1 v N (rowsL F) from h).below hb
    · exact h
    · exact (show IsRow w1 v (mkp 64 f) from h).below hb
    · exact h
    · exact (show IsRow w1 v (mkp 6 g) from h).below hb
    · exact (show IsRow w1 v (H) from h).below hb
    · exact h
    · exact h
    · exact h
    · exact h
  · intro k hk
    rcases k with _|k
    · kernel_rfl
    · omega
  · intro k hk
    rcases k with _|k
    · refine ⟨?_, (by kernel_rfl), hZ, fun v w' h => h, by decide, ?_⟩
      · simp only [List.getD_cons_zero, List.getD_cons_succ] <;> omega
      · intro k' hk' hne
        rcases k' with _|k'
        all_goals first | omega | exact absurd rfl hne | (refine ⟨?_, by decide⟩; simp only [List.getD_cons_zero, List.getD_cons_succ]; omega)
    · omega
  · kernel_rfl
  · intro i o ho hz a w2 hBs hSx hBl hrd hpar
    rcases i with _|_|_|_|_|_|_|_|_|_|_|_|i
    · obtain rfl := Option.some.inj ho
      have e0 : a.eval (.tmp 0) = .int .i64 p := hpar 0 _ (by kernel_rfl) (by kernel_rfl)
      exact wpv_of (wp_move _ _ rfl e0) (fun _ _ => rfl)
    · obtain rfl := Option.some.inj ho
      have e1 : a.eval (.tmp 1) = .int .i64 N := hpar 1 _ (by kernel_rfl) (by kernel_rfl)
      exact wpv_of (wp_move _ _ rfl e1) (fun _ _ => rfl)
    · obtain rfl := Option.some.inj ho
      exact wpv_of (wp_loadB 27 _ rfl _ (hpar 7 (.pointer (some ⟨w.heap.size, 0, none⟩)) (by kernel_rfl) (by kernel_rfl)) _ _ hSx.1 _ _ uSquare sSquare) (fun _ _ => rfl)
    · obtain rfl := Option.some.inj ho
      obtain ⟨_, e32⟩ : ∃ _w : World, a.eval (.tmp 32) = .int .i64 N := (hrd 1 _ 32 rfl rfl (by kernel_rfl) (by kernel_rfl) (by decide)).1
      obtain ⟨_, e33⟩ : ∃ _w : World, a.eval (.tmp 33) = .agg (u8s 36 F) := (hrd 2 _ 33 rfl rfl (by kernel_rfl) (by kernel_rfl) (by decide)).1
      exact wpv_call 52 [.tmp 32, .tmp 33] _ rfl [.int .i64 N, .agg (u8s 36 F)] (by simp only [List.map_cons, List.map_nil, e32, e33]) Try.call52 (hmtH.out w2)
    · obtain rfl := Option.some.inj ho
      exact wpv_of (wp_loadB 33 _ rfl _ (hpar 8 (.pointer (some ⟨w.heap.size + 1, 0, none⟩)) (by kernel_rfl) (by kernel_rfl)) _ _ hSx.2.1 _ _ uPoly sPoly) (fun _ _ => rfl)
    · obtain rfl := Option.some.inj ho
      obtain ⟨_, e35⟩ : ∃ _w : World, a.eval (.tmp 35) = .agg (u8s 64 f) := (hrd 4 _ 35 rfl rfl (by kernel_rfl) (by kernel_rfl) (by decide)).1
      exact wpv_call 39 [.tmp 35] _ rfl [.agg (u8s 64 f)] (by simp only [List.map_cons, List.map_nil, e35]) Try.call39 (hrwH.out w2)
    · obtain rfl := Option.some.inj ho
      exact wpv_of (wp_loadB 25 _ rfl _ (hpar 9 (.pointer (some ⟨w.heap.size + 1 + 1, 0, none⟩)) (by kernel_rfl) (by kernel_rfl)) _ _ hSx.2.2.1 _ _ uRow sRow) (fun _ _ => rfl)
    · obtain rfl := Option.some.inj ho
      obtain ⟨_, e37⟩ : ∃ _w : World, a.eval (.tmp 37) = .agg (u8s 6 g) := (hrd 6 _ 37 rfl rfl (by kernel_rfl) (by kernel_rfl) (by decide)).1
      exact wpv_call 53 [.tmp 37] _ rfl [.agg (u8s 6 g)] (by simp only [List.map_cons, List.map_nil, e37]) Try.call53 ((hvcH.out w2).mono fun _ _ ⟨v, h1, h2, _, h3⟩ => ⟨v, h1, h2, h3⟩)
    · obtain rfl := Option.some.inj ho
      obtain ⟨_, e31⟩ : ∃ _w : World, a.eval (.tmp 31) = .int .i64 p := (hrd 0 _ 31 rfl rfl (by kernel_rfl) (by kernel_rfl) (by decide)).1
      have h34 : (fun v w => IsRows w v N (rowsL F)) (a.eval (.tmp 34)) w2 := (hrd 3 _ 34 rfl rfl (by kernel_rfl) (by kernel_rfl) (by decide)).2 rfl
      generalize e34 : a.eval (.tmp 34) = v34 at h34
      have h36 : (fun v w => IsRow w v (mkp 64 f)) (a.eval (.tmp 36)) w2 := (hrd 5 _ 36 rfl rfl (by kernel_rfl) (by kernel_rfl) (by decide)).2 rfl
      generalize e36 : a.eval (.tmp 36) = v36 at h36
      have h38 : (fun v w => IsRow w v (mkp 6 g)) (a.eval (.tmp 38)) w2 := (hrd 7 _ 38 rfl rfl (by kernel_rfl) (by kernel_rfl) (by decide)).2 rfl
      generalize e38 : a.eval (.tmp 38) = v38 at h38
      exact wpv_call 51 [.tmp 31, .tmp 34, .tmp 36, .tmp 38] _ rfl [.int .i64 p, v34, v36, v38] (by simp only [List.map_cons, List.map_nil, e31, e34, e36, e38]) Try.call51 (hapH.out _ _ _ w2 h34 h36 h38)
    · obtain rfl := Option.some.inj ho
      have h39 : (fun v w => IsRow w v (H)) (a.eval (.tmp 39)) w2 := (hrd 8 _ 39 rfl rfl (by kernel_rfl) (by kernel_rfl) (by decide)).2 rfl
      generalize e39 : a.eval (.tmp 39) = v39 at h39
      exact wpv_call 50 [.tmp 39] _ rfl [v39] (by simp only [List.map_cons, List.map_nil, e39]) Try.call50 ((harH.out _ w2 h39).mono fun _ _ ⟨h1, h2⟩ => ⟨_, h1, rfl, h2⟩)
    · exact absurd rfl (hz 0 (by decide))
    · obtain rfl := Option.some.inj ho
      exact wpv_of (wp_assign _ (.int .i64 0) rfl rfl) (fun _ _ => rfl)
    · simp at ho
  intro vals xE hBx hSx hS0 hcs hrs
  obtain ⟨_, e0⟩ : ∃ _w : World, vals 0 = .int .i64 p := hcs 0 (by simp) (by decide)
  obtain ⟨_, e1⟩ : ∃ _w : World, vals 1 = .int .i64 N := hcs 1 (by simp) (by decide)
  obtain ⟨_, e2⟩ : ∃ _w : World, vals 2 = .agg (u8s 36 F) := hcs 2 (by simp) (by decide)
  obtain ⟨_, e4⟩ : ∃ _w : World, vals 4 = .agg (u8s 64 f) := hcs 4 (by simp) (by decide)
  obtain ⟨_, e6⟩ : ∃ _w : World, vals 6 = .agg (u8s 6 g) := hcs 6 (by simp) (by decide)
  obtain ⟨_, e9⟩ : ∃ _w : World, vals 9 = .agg (u8s 6 (cf H)) := hcs 9 (by simp) (by decide)
  obtain ⟨_, e11⟩ : ∃ _w : World, vals 11 = .int .i64 0 := hcs 11 (by simp) (by decide)
  have hsE0 : Blk xE (w.heap.size + 1 + 1 + 1) (u8s 6 (cf H)) 25 := hrs 0 (by decide)
  simp only [List.length_cons, List.length_nil, Nat.zero_add, Nat.reduceAdd, List.replicate, putAll, if_true, Act.put, List.setIfInBounds_toArray, List.set_cons_zero, List.set_cons_succ, e0, e1, e2, e4, e6, e9, e11]
  replace hA := hSx.1
  replace hD := hSx.2.1
  replace hV := hSx.2.2.1
  clear hcs hrs hS0 hSx e0 e1 e2 e4 e6 e9 e11
  go_wp2_with fail
  exact bodyPost_ret (res_ct (x := .int .i64 0) rfl rfl hsE0 uRow sRow rfl) rfl ⟨by rw [he2.out]; rfl, hBx⟩

theorem ApplySquare_pair (p n : Int) (F f g : Nat → Int) (_ : (Lit.int .i64 p).wf = true) (_ : (Lit.int .i64 n).wf = true) (hF : By F) (hf : By f) (hg : By g) : ∃ (r0 : Nat → Int) (r1 : Int),
    (∀ w, Calls Try.prog 19 #[.int .i64 p, .int .i64 n, .agg (u8s 36 F), .agg (u8s 64 f), .agg (u8s 6 g)] w fun e w' => e = .returned (.tuple #[.agg (u8s 6 r0), .int .i64 r1]) ∧ Below w.heap.size w w') ∧
    (∀ w, Calls Try.prog 21 #[.int .i64 p, .int .i64 n, .agg (u8s 36 F), .agg (u8s 64 f), .agg (u8s 6 g)] w fun e w' => e = .returned (.tuple #[.agg (u8s 6 r0), .int .i64 r1]) ∧ Below w.heap.size w w') := by
  obtain ⟨b, hb⟩ := dec_true (SqOk p n F)
  obtain ⟨t, ht⟩ := dec_true (RowOk p n g)
  exact ⟨_, _, fun w => specApplySquare_any F f g p n b _ t w hF hf hg hb rfl ht, fun w => implApplySquare_any F f g p n b _ t w hF hf hg hb rfl ht⟩
end Go.Proofs.Ytnkkkgaojhkniaa
