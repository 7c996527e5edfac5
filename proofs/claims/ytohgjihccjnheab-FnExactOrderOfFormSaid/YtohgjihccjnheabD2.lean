/- Walks: forms, checked by the reference. -/
import Derived.Test.YtohgjihccjnheabD1
import Derived.Test.YtohgjihccjnheabGd
import Derived.Test.YtohgjihccjnheabSpd
set_option linter.unusedVariables false
set_option linter.unusedSimpArgs false
namespace Go.Proofs.Ytohgjihccjnheab
open Go.RowKit

theorem lForm : layout Try.prog 30 = some (.agg (u8s 128 fun _ => 0), [(0, 64), (64, 64)]) := by kernel_rfl
theorem lform : layout Try.prog 46 = some (.agg #[.slice none 0 0, .slice none 0 0], [(0, 1), (1, 1)]) := by kernel_rfl
theorem lcurve : layout Try.prog 42 = some (.agg #[.int .i64 0, .slice none 0 0], [(0, 1), (1, 1)]) := by kernel_rfl
theorem zForm : (Try.prog.info? 30).bind (·.zero) = some (.agg (u8s 128 fun _ => 0)) := by kernel_rfl
theorem sForm : (Try.prog.info? 30).map (·.size) = some 128 := by kernel_rfl
theorem zform : (Try.prog.info? 46).bind (·.zero) = some (.agg #[.slice none 0 0, .slice none 0 0]) := by kernel_rfl
theorem sform : (Try.prog.info? 46).map (·.size) = some 2 := by kernel_rfl
theorem zcurve : (Try.prog.info? 42).bind (·.zero) = some (.agg #[.int .i64 0, .slice none 0 0]) := by kernel_rfl
theorem scurve : (Try.prog.info? 42).map (·.size) = some 2 := by kernel_rfl
theorem fForm0 : fieldB Try.prog 30 0 0 64 = true := by kernel_rfl
theorem fForm1 : fieldB Try.prog 30 1 64 64 = true := by kernel_rfl
theorem fform0 : fieldB Try.prog 46 0 0 1 = true := by kernel_rfl
theorem fform1 : fieldB Try.prog 46 1 1 1 = true := by kernel_rfl
theorem fcurve0 : fieldB Try.prog 42 0 0 1 = true := by kernel_rfl
theorem fcurve1 : fieldB Try.prog 42 1 1 1 = true := by kernel_rfl
theorem tForm : strB Try.prog 30 = true := by kernel_rfl
theorem tform : strB Try.prog 46 = true := by kernel_rfl
theorem tcurve : strB Try.prog 42 = true := by kernel_rfl
theorem uPrime : Try.prog.underlying 38 = some (.int .i64) := by kernel_rfl
theorem uRowT : Try.prog.underlying 40 = some (.slice 2) := by kernel_rfl
/-- b b less d. -/
def sqd (p : Int) (ds bs : List Int) : List Int := addp p (mulp p bs bs) ds (-1)

set_option maxRecDepth 20000 in
set_option maxHeartbeats 2000000 in
theorem l07Square_any (p : Int) (ds bs : List Int) (w : World) (hd : P64 p ds) (hb : P64 p bs) (hl : (mulp p bs bs).length ≤ 64) :
    Calls Try.prog 54 #[.int .i64 p, .agg (u8s 64 (cf ds)), .agg (u8s 64 (cf bs))] w fun e w' => e = .returned (.agg (u8s 64 (cf (sqd p ds bs)))) ∧ Below w.heap.size w w' := by
  have hmP : P64 p (mulp p bs bs) := ⟨hd.pr, mulp_Po (by have := hd.pr.pos; omega) _ _, hl⟩
  have h1 := Lib.hid (fun w => l01Times_in bs bs p w hb hb hl)
  have h2 := Lib.hid (fun w => l01Add_list (mulp p bs bs) ds p (-1) w hmP hd (by decide) (by decide))
  clear hmP hd hb hl
  unfold sqd
  obtain ⟨hb, hA, hB, hZ⟩ := boxes3 w (u8s 64 (cf ds)) (u8s 64 (cf bs)) (u8s 64 fun _ => 0) 27 27 27
  go_enter Try.func54, Try.ntmps54
  go_wp2_with ((with_reducible refine wpl_guard ?_); first | (refine wpl_alloc_arr rfl 27 rfl _ zPoly ?_) | (refine wpl_load_arr rfl 27 _ rfl _ rfl _ _ hA _ _ uPoly sPoly ?_) | (refine wpl_load_arr rfl 27 _ rfl _ rfl _ _ hB _ _ uPoly sPoly ?_))
  refine (h1.out _).mono ?_
  rintro e u1 ⟨rfl, hn⟩
  replace hA := hA.keep hn
  replace hB := hB.keep hn
  replace hZ := hZ.keep hn
  replace hb := below_step hb hn
  clear hn
  go_upto_region 2 with ((with_reducible refine wpl_guard ?_); first | (refine wpl_alloc_arr rfl 27 rfl _ zPoly ?_) | (refine wpl_store_new rfl 27 _ _ rfl _ rfl rfl _ rfl sPoly (by simp only [u8s_size]) (u8s_oneCell _ _) ?_))
  have hV := Blk.newAt (w := u1) (n := u1.heap.size) rfl (u8s 64 (cf (mulp p bs bs))) 27
  replace hA := hA.alloc (.cells (u8s 64 (cf (mulp p bs bs))) 27)
  replace hB := hB.alloc (.cells (u8s 64 (cf (mulp p bs bs))) 27)
  replace hZ := hZ.alloc (.cells (u8s 64 (cf (mulp p bs bs))) 27)
  replace hb := below_step hb (below_new u1 (.cells (u8s 64 (cf (mulp p bs bs))) 27))
  go_wp2_with ((with_reducible refine wpl_guard ?_); first | (refine wpl_load_arr rfl 27 _ rfl _ rfl _ _ hV _ _ uPoly sPoly ?_) | (refine wpl_load_arr rfl 27 _ rfl _ rfl _ _ hA _ _ uPoly sPoly ?_))
  refine (h2.out _).mono ?_
  rintro e u2 ⟨rfl, hn⟩
  replace hA := hA.keep hn
  replace hB := hB.keep hn
  replace hZ := hZ.keep hn
  replace hV := hV.keep hn
  replace hb := below_step hb hn
  clear hn
  go_wp2_with ((with_reducible refine wpl_guard ?_); first | (refine wpl_store_arr rfl 27 _ _ rfl _ rfl _ rfl _ _ hZ sPoly (by simp only [u8s_size]) (u8s_oneCell _ _) ?_))
  exact bodyPost_ret (res_c rfl rfl (hZ.setRow_same (cs := u8s 64 (cf (addp p (mulp p bs bs) ds (-1))))) uPoly sPoly) rfl ⟨rfl, below_setRow hb (by omega) _⟩

def OkP (p : Int) (f : Nat → Int) : Prop := (∀ i : Nat, i < 64 → f i < p) ∧ Pr p
/-- A form. -/
def FormOk (p : Int) (ds : List Int) (f g : Nat → Int) : Prop := OkP p f ∧ OkP p g ∧ cf (mkp 64 f) ((mkp 64 f).length - 1) = 1 ∧ (mkp 64 f).length ≤ 13 ∧ (mkp 64 g).length < (mkp 64 f).length ∧ rst p (sqd p ds (mkp 64 g)) (mkp 64 f) = []
theorem OkP.p64 {p : Int} {f : Nat → Int} (h : OkP p f) (hf : By f) : P64 p (mkp 64 f) := ⟨h.2, ⟨mkp_Tr _ _, Md_mkp (by have := h.2.pos; omega) fun i hi => ⟨(hf i).1, h.1 i hi⟩⟩, mkp_length _ _⟩
theorem sq_len {p : Int} {bs : List Int} (h : bs.length ≤ 13) : (mulp p bs bs).length ≤ 64 := by have := mulp_length_le p bs bs; omega
theorem bad_of {b : Bool} {P : Prop} (hb : P ↔ b = true) (h : ¬ P) : b = false := by
  cases b
  · rfl
  · exact absurd (hb.2 rfl) h

set_option maxRecDepth 20000 in
set_option maxHeartbeats 2000000 in
theorem l07Form_any (p : Int) (ds : List Int) (f g : Nat → Int) (b : Bool) (w : World) (hd : P64 p ds) (hf : By f) (hg : By g) (hb : FormOk p ds f g ↔ b = true) :
    Calls Try.prog 26 #[.int .i64 p, .agg (u8s 64 (cf ds)), .agg (u8s 128 (fmF f g))] w fun e w' => e = .returned (.bool b) ∧ Below w.heap.size w w' := by
  have hfH := Lib.hid hf
  have hgH := Lib.hid hg
  have hbH := Lib.hid hb
  have hdH := Lib.hid hd
  have hdf := Lib.hid (fun w => l01Deg_any f w hf.on)
  have hdgg := Lib.hid (fun w => l01Deg_any g w hg.on)
  obtain ⟨t1, h1⟩ : ∃ t, decide ((∀ i : Nat, i < 64 → f i < p) ∧ Pr p) = t := ⟨_, rfl⟩
  obtain ⟨t2, h2⟩ : ∃ t, decide ((∀ i : Nat, i < 64 → g i < p) ∧ Pr p) = t := ⟨_, rfl⟩
  obtain ⟨t3, h3⟩ : ∃ t, decide (cf (mkp 64 f) ((mkp 64 f).length - 1) = 1) = t := ⟨_, rfl⟩
  have k1 := Lib.hid (fun w => l01Is_any f p w hf.on t1 h1)
  have k2 := Lib.hid (fun w => l01Is_any g p w hg.on t2 h2)
  have k3 := Lib.hid (fun w => l01Monic_any f w hf t3 h3)
  have h1H := Lib.hid h1
  have h2H := Lib.hid h2
  have h3H := Lib.hid h3
  obtain ⟨La, hLa⟩ : ∃ n, (mkp 64 f).length = n := ⟨_, rfl⟩
  obtain ⟨Lb, hLb⟩ : ∃ n, (mkp 64 g).length = n := ⟨_, rfl⟩
  rw [hLa] at hdf
  rw [hLb] at hdgg
  have hLaH := Lib.hid hLa
  have hLbH := Lib.hid hLb
  clear hf hg hb hd h1 h2 h3 hLa hLb
  obtain ⟨hb, hA, hB⟩ := boxes2 w (u8s 64 (cf ds)) (u8s 128 (fmF f g)) 27 30
  go_enter Try.func26, Try.ntmps26
  cases t1
  ·
    have hbf : b = false := bad_of hbH.out (fun h => of_decide_eq_false h1H.out h.1)
    subst hbf
    go_upto_region 1 with (fail)
    refine gen_guard (w := _) (by kernel_rfl) (by kernel_rfl) (by kernel_rfl)
        (fun i => ([fun zv _ => zv = .int .i64 p, fun zv _ => zv = .pointer (some ⟨w.heap.size + 1, 0 + 0, none⟩), fun zv _ => zv = .agg (u8s 64 (f)), fun zv _ => zv = .bool false, fun zv _ => zv = .bool true, fun zv _ => zv = .bool true, fun zv _ => zv = undef, fun zv _ => zv = undef, fun zv _ => zv = undef, fun zv _ => zv = undef, fun zv _ => zv = undef, fun zv _ => zv = .bool true, fun zv _ => zv = .bool true, fun zv _ => zv = undef, fun zv _ => zv = undef, fun zv _ => zv = undef, fun zv _ => zv = undef, fun zv _ => zv = .bool true, fun zv _ => zv = .bool true, fun zv _ => zv = undef, fun zv _ => zv = undef, fun zv _ => zv = undef, fun zv _ => zv = undef, fun zv _ => zv = .bool true, fun zv _ => zv = .bool true, fun zv _ => zv = undef, fun zv _ => zv = undef, fun zv _ => zv = undef, fun zv _ => zv = undef, fun zv _ => zv = undef, fun zv _ => zv = undef, fun zv _ => zv = undef, fun zv _ => zv = .bool true] : List (Value → World → Prop)).getD i (fun _ _ => True))
        (fun w' => Blk w' (w.heap.size) (u8s 64 (cf ds)) 27 ∧ Blk w' (w.heap.size + 1) (u8s 128 (fmF f g)) 30 ∧ True) ⟨hA.drew, hB.drew, trivial⟩ (fun w1 w2 h hb => ⟨h.1.keep hb, h.2.1.keep hb, trivial⟩) ?_ ?_ ?_
    · intro i v w1 w2 h hb
      rcases i with _|_|_|_|_|_|_|_|_|_|_|_|_|_|_|_|_|_|_|_|_|_|_|_|_|_|_|_|_|_|_|_|_|i
      · exact h
      · exact h
      · exact h
      · exact h
      · exact h
      · exact h
      · exact h
      · exact h
      · exact h
      · exact h
      · exact h
      · exact h
      · exact h
      · exact h
      · exact h
      · exact h
      · exact h
      · exact h
      · exact h
      · exact h
      · exact h
      · exact h
      · exact h
      · exact h
      · exact h
      · exact h
      · exact h
      · exact h
      · exact h
      · exact h
      · exact h
      · exact h
      · exact h
      · exact h
    · intro i o ho a w2 hBl hSx hrd hpar
      rcases i with _|_|_|_|_|_|_|_|_|_|_|_|_|_|_|_|_|_|_|_|_|_|_|_|_|_|_|_|_|_|_|_|_|i
      · obtain rfl := Option.some.inj ho
        refine .inl ⟨rfl, ?_⟩
        have e0 : a.eval (.tmp 0) = .int .i64 p := hpar 0 _ (by kernel_rfl) (by kernel_rfl)
        exact wpv_of (wp_move _ _ rfl e0) (fun _ _ => rfl)
      · obtain rfl := Option.some.inj ho
        refine .inl ⟨rfl, ?_⟩
        exact wpv_of (wp_fieldB 30 _ 0 rfl 0 64 fForm0 (w.heap.size + 1) 0 (hpar 5 _ (by kernel_rfl) (by kernel_rfl))) (fun _ _ => rfl)
      · obtain rfl := Option.some.inj ho
        refine .inl ⟨rfl, ?_⟩
        have e8 : a.eval (.tmp 8) = .pointer (some ⟨w.heap.size + 1, 0 + 0, none⟩) := hrd 1 _ 8 rfl rfl (by kernel_rfl) (by kernel_rfl)
        exact wpv_of (wp_load_A 27 _ rfl _ e8 _ _ _ hSx.2.1 uPoly sPoly) (fun _ _ => rfl)
      · obtain rfl := Option.some.inj ho
        refine .inl ⟨rfl, ?_⟩
        have e7 : a.eval (.tmp 7) = .int .i64 p := hrd 0 _ 7 rfl rfl (by kernel_rfl) (by kernel_rfl)
        have e9 : a.eval (.tmp 9) = .agg (u8s 64 (f)) := hrd 2 _ 9 rfl rfl (by kernel_rfl) (by kernel_rfl)
        exact wpv_call 51 [.tmp 7, .tmp 9] _ rfl [.int .i64 p, .agg (u8s 64 (f))] (by simp only [List.map_cons, List.map_nil, e7, e9]) Try.call51 ((k1.out w2).mono fun _ _ ⟨h1, h2⟩ => ⟨_, h1, rfl, h2⟩)
      · obtain rfl := Option.some.inj ho
        refine .inl ⟨rfl, ?_⟩
        have e10 : a.eval (.tmp 10) = .bool false := hrd 3 _ 10 rfl rfl (by kernel_rfl) (by kernel_rfl)
        exact wpv_of (wp_not _ _ false rfl e10) (fun _ _ => rfl)
      · obtain rfl := Option.some.inj ho
        refine .inl ⟨rfl, ?_⟩
        have e11 : a.eval (.tmp 11) = .bool true := hrd 4 _ 11 rfl rfl (by kernel_rfl) (by kernel_rfl)
        exact wpv_of (wp_move _ _ rfl e11) (fun _ _ => rfl)
      · obtain rfl := Option.some.inj ho
        exact .inr (.inr ⟨5, false, _, 12, rfl, rfl, rfl, (by kernel_rfl), (by kernel_rfl), fun v w' h => .inl h, fun _ => rfl⟩)
      · obtain rfl := Option.some.inj ho
        exact .inr (.inr ⟨5, false, _, 12, rfl, rfl, rfl, (by kernel_rfl), (by kernel_rfl), fun v w' h => .inl h, fun _ => rfl⟩)
      · obtain rfl := Option.some.inj ho
        exact .inr (.inr ⟨5, false, _, 12, rfl, rfl, rfl, (by kernel_rfl), (by kernel_rfl), fun v w' h => .inl h, fun _ => rfl⟩)
      · obtain rfl := Option.some.inj ho
        exact .inr (.inr ⟨5, false, _, 12, rfl, rfl, rfl, (by kernel_rfl), (by kernel_rfl), fun v w' h => .inl h, fun _ => rfl⟩)
      · obtain rfl := Option.some.inj ho
        exact .inr (.inr ⟨5, false, _, 12, rfl, rfl, rfl, (by kernel_rfl), (by kernel_rfl), fun v w' h => .inl h, fun _ => rfl⟩)
      · obtain rfl := Option.some.inj ho
        refine .inl ⟨rfl, ?_⟩
        have e12 : a.eval (.tmp 12) = .bool true := hrd 5 _ 12 rfl rfl (by kernel_rfl) (by kernel_rfl)
        exact wpv_of (wp_pickT _ _ _ rfl e12 (.bool true) rfl) (fun _ _ => rfl)
      · obtain rfl := Option.some.inj ho
        refine .inl ⟨rfl, ?_⟩
        have e18 : a.eval (.tmp 18) = .bool true := hrd 11 _ 18 rfl rfl (by kernel_rfl) (by kernel_rfl)
        exact wpv_of (wp_move _ _ rfl e18) (fun _ _ => rfl)
      · obtain rfl := Option.some.inj ho
        exact .inr (.inr ⟨12, false, _, 19, rfl, rfl, rfl, (by kernel_rfl), (by kernel_rfl), fun v w' h => .inl h, fun _ => rfl⟩)
      · obtain rfl := Option.some.inj ho
        exact .inr (.inr ⟨12, false, _, 19, rfl, rfl, rfl, (by kernel_rfl), (by kernel_rfl), fun v w' h => .inl h, fun _ => rfl⟩)
      · obtain rfl := Option.some.inj ho
        exact .inr (.inr ⟨12, false, _, 19, rfl, rfl, rfl, (by kernel_rfl), (by kernel_rfl), fun v w' h => .inl h, fun _ => rfl⟩)
      · obtain rfl := Option.some.inj ho
        exact .inr (.inr ⟨12, false, _, 19, rfl, rfl, rfl, (by kernel_rfl), (by kernel_rfl), fun v w' h => .inl h, fun _ => rfl⟩)
      · obtain rfl := Option.some.inj ho
        refine .inl ⟨rfl, ?_⟩
        have e19 : a.eval (.tmp 19) = .bool true := hrd 12 _ 19 rfl rfl (by kernel_rfl) (by kernel_rfl)
        exact wpv_of (wp_pickT _ _ _ rfl e19 (.bool true) rfl) (fun _ _ => rfl)
      · obtain rfl := Option.some.inj ho
        refine .inl ⟨rfl, ?_⟩
        have e24 : a.eval (.tmp 24) = .bool true := hrd 17 _ 24 rfl rfl (by kernel_rfl) (by kernel_rfl)
        exact wpv_of (wp_move _ _ rfl e24) (fun _ _ => rfl)
      · obtain rfl := Option.some.inj ho
        exact .inr (.inr ⟨18, false, _, 25, rfl, rfl, rfl, (by kernel_rfl), (by kernel_rfl), fun v w' h => .inl h, fun _ => rfl⟩)
      · obtain rfl := Option.some.inj ho
        exact .inr (.inr ⟨18, false, _, 25, rfl, rfl, rfl, (by kernel_rfl), (by kernel_rfl), fun v w' h => .inl h, fun _ => rfl⟩)
      · obtain rfl := Option.some.inj ho
        exact .inr (.inr ⟨18, false, _, 25, rfl, rfl, rfl, (by kernel_rfl), (by kernel_rfl), fun v w' h => .inl h, fun _ => rfl⟩)
      · obtain rfl := Option.some.inj ho
        exact .inr (.inr ⟨18, false, _, 25, rfl, rfl, rfl, (by kernel_rfl), (by kernel_rfl), fun v w' h => .inl h, fun _ => rfl⟩)
      · obtain rfl := Option.some.inj ho
        refine .inl ⟨rfl, ?_⟩
        have e25 : a.eval (.tmp 25) = .bool true := hrd 18 _ 25 rfl rfl (by kernel_rfl) (by kernel_rfl)
        exact wpv_of (wp_pickT _ _ _ rfl e25 (.bool true) rfl) (fun _ _ => rfl)
      · obtain rfl := Option.some.inj ho
        refine .inl ⟨rfl, ?_⟩
        have e30 : a.eval (.tmp 30) = .bool true := hrd 23 _ 30 rfl rfl (by kernel_rfl) (by kernel_rfl)
        exact wpv_of (wp_move _ _ rfl e30) (fun _ _ => rfl)
      · obtain rfl := Option.some.inj ho
        exact .inr (.inr ⟨24, false, _, 31, rfl, rfl, rfl, (by kernel_rfl), (by kernel_rfl), fun v w' h => .inl h, fun _ => rfl⟩)
      · obtain rfl := Option.some.inj ho
        exact .inr (.inr ⟨24, false, _, 31, rfl, rfl, rfl, (by kernel_rfl), (by kernel_rfl), fun v w' h => .inl h, fun _ => rfl⟩)
      · obtain rfl := Option.some.inj ho
        exact .inr (.inr ⟨24, false, _, 31, rfl, rfl, rfl, (by kernel_rfl), (by kernel_rfl), fun v w' h => .inl h, fun _ => rfl⟩)
      · obtain rfl := Option.some.inj ho
        exact .inr (.inr ⟨24, false, _, 31, rfl, rfl, rfl, (by kernel_rfl), (by kernel_rfl), fun v w' h => .inl h, fun _ => rfl⟩)
      · obtain rfl := Option.some.inj ho
        exact .inr (.inr ⟨24, false, _, 31, rfl, rfl, rfl, (by kernel_rfl), (by kernel_rfl), fun v w' h => .inl h, fun _ => rfl⟩)
      · obtain rfl := Option.some.inj ho
        exact .inr (.inr ⟨24, false, _, 31, rfl, rfl, rfl, (by kernel_rfl), (by kernel_rfl), fun v w' h => .inl h, fun _ => rfl⟩)
      · obtain rfl := Option.some.inj ho
        exact .inr (.inr ⟨24, false, _, 31, rfl, rfl, rfl, (by kernel_rfl), (by kernel_rfl), fun v w' h => .inl h, fun _ => rfl⟩)
      · obtain rfl := Option.some.inj ho
        refine .inl ⟨rfl, ?_⟩
        have e31 : a.eval (.tmp 31) = .bool true := hrd 24 _ 31 rfl rfl (by kernel_rfl) (by kernel_rfl)
        exact wpv_of (wp_pickT _ _ _ rfl e31 (.bool true) rfl) (fun _ _ => rfl)
      · simp at ho
    intro vals xE hBx hSx hc0
    have e0 : vals 0 = .int .i64 p := hc0 0 (by simp)
    have e1 : vals 1 = .pointer (some ⟨w.heap.size + 1, 0 + 0, none⟩) := hc0 1 (by simp)
    have e2 : vals 2 = .agg (u8s 64 (f)) := hc0 2 (by simp)
    have e3 : vals 3 = .bool false := hc0 3 (by simp)
    have e4 : vals 4 = .bool true := hc0 4 (by simp)
    have e5 : vals 5 = .bool true := hc0 5 (by simp)
    have e6 : vals 6 = undef := hc0 6 (by simp)
    have e7 : vals 7 = undef := hc0 7 (by simp)
    have e8 : vals 8 = undef := hc0 8 (by simp)
    have e9 : vals 9 = undef := hc0 9 (by simp)
    have e10 : vals 10 = undef := hc0 10 (by simp)
    have e11 : vals 11 = .bool true := hc0 11 (by simp)
    have e12 : vals 12 = .bool true := hc0 12 (by simp)
    have e13 : vals 13 = undef := hc0 13 (by simp)
    have e14 : vals 14 = undef := hc0 14 (by simp)
    have e15 : vals 15 = undef := hc0 15 (by simp)
    have e16 : vals 16 = undef := hc0 16 (by simp)
    have e17 : vals 17 = .bool true := hc0 17 (by simp)
    have e18 : vals 18 = .bool true := hc0 18 (by simp)
    have e19 : vals 19 = undef := hc0 19 (by simp)
    have e20 : vals 20 = undef := hc0 20 (by simp)
    have e21 : vals 21 = undef := hc0 21 (by simp)
    have e22 : vals 22 = undef := hc0 22 (by simp)
    have e23 : vals 23 = .bool true := hc0 23 (by simp)
    have e24 : vals 24 = .bool true := hc0 24 (by simp)
    have e25 : vals 25 = undef := hc0 25 (by simp)
    have e26 : vals 26 = undef := hc0 26 (by simp)
    have e27 : vals 27 = undef := hc0 27 (by simp)
    have e28 : vals 28 = undef := hc0 28 (by simp)
    have e29 : vals 29 = undef := hc0 29 (by simp)
    have e30 : vals 30 = undef := hc0 30 (by simp)
    have e31 : vals 31 = undef := hc0 31 (by simp)
    have e32 : vals 32 = .bool true := hc0 32 (by simp)
    simp only [List.length_cons, List.length_nil, Nat.zero_add, Nat.reduceAdd, List.replicate, putAll, if_true, Act.put, List.setIfInBounds_toArray, List.set_cons_zero, List.set_cons_succ, e0, e1, e2, e3, e4, e5, e6, e7, e8, e9, e10, e11, e12, e13, e14, e15, e16, e17, e18, e19, e20, e21, e22, e23, e24, e25, e26, e27, e28, e29, e30, e31, e32]
    replace hA := hSx.1
    replace hB := hSx.2.1
    replace hb := below_step hb hBx
    clear hc0 hSx e0 e1 e2 e3 e4 e5 e6 e7 e8 e9 e10 e11 e12 e13 e14 e15 e16 e17 e18 e19 e20 e21 e22 e23 e24 e25 e26 e27 e28 e29 e30 e31 e32
    go_wp2_with fail
    go_ret
    exact ⟨rfl, hb⟩
  cases t2
  ·
    have hbf : b = false := bad_of hbH.out (fun h => of_decide_eq_false h2H.out h.2.1)
    subst hbf
    go_upto_region 1 with (fail)
    refine gen_guard (w := _) (by kernel_rfl) (by kernel_rfl) (by kernel_rfl)
        (fun i => ([fun zv _ => zv = .int .i64 p, fun zv _ => zv = .pointer (some ⟨w.heap.size + 1, 0 + 0, none⟩), fun zv _ => zv = .agg (u8s 64 (f)), fun zv _ => zv = .bool true, fun zv _ => zv = .bool false, fun zv _ => zv = .bool false, fun zv _ => zv = .int .i64 p, fun zv _ => zv = .pointer (some ⟨w.heap.size + 1, 0 + 64, none⟩), fun zv _ => zv = .agg (u8s 64 (g)), fun zv _ => zv = .bool false, fun zv _ => zv = .bool true, fun zv _ => zv = .bool true, fun zv _ => zv = .bool true, fun zv _ => zv = undef, fun zv _ => zv = undef, fun zv _ => zv = undef, fun zv _ => zv = undef, fun zv _ => zv = .bool true, fun zv _ => zv = .bool true, fun zv _ => zv = undef, fun zv _ => zv = undef, fun zv _ => zv = undef, fun zv _ => zv = undef, fun zv _ => zv = .bool true, fun zv _ => zv = .bool true, fun zv _ => zv = undef, fun zv _ => zv = undef, fun zv _ => zv = undef, fun zv _ => zv = undef, fun zv _ => zv = undef, fun zv _ => zv = undef, fun zv _ => zv = undef, fun zv _ => zv = .bool true] : List (Value → World → Prop)).getD i (fun _ _ => True))
        (fun w' => Blk w' (w.heap.size) (u8s 64 (cf ds)) 27 ∧ Blk w' (w.heap.size + 1) (u8s 128 (fmF f g)) 30 ∧ True) ⟨hA.drew, hB.drew, trivial⟩ (fun w1 w2 h hb => ⟨h.1.keep hb, h.2.1.keep hb, trivial⟩) ?_ ?_ ?_
    · intro i v w1 w2 h hb
      rcases i with _|_|_|_|_|_|_|_|_|_|_|_|_|_|_|_|_|_|_|_|_|_|_|_|_|_|_|_|_|_|_|_|_|i
      · exact h
      · exact h
      · exact h
      · exact h
      · exact h
      · exact h
      · exact h
      · exact h
      · exact h
      · exact h
      · exact h
      · exact h
      · exact h
      · exact h
      · exact h
      · exact h
      · exact h
      · exact h
      · exact h
      · exact h
      · exact h
      · exact h
      · exact h
      · exact h
      · exact h
      · exact h
      · exact h
      · exact h
      · exact h
      · exact h
      · exact h
      · exact h
      · exact h
      · exact h
    · intro i o ho a w2 hBl hSx hrd hpar
      rcases i with _|_|_|_|_|_|_|_|_|_|_|_|_|_|_|_|_|_|_|_|_|_|_|_|_|_|_|_|_|_|_|_|_|i
      · obtain rfl := Option.some.inj ho
        refine .inl ⟨rfl, ?_⟩
        have e0 : a.eval (.tmp 0) = .int .i64 p := hpar 0 _ (by kernel_rfl) (by kernel_rfl)
        exact wpv_of (wp_move _ _ rfl e0) (fun _ _ => rfl)
      · obtain rfl := Option.some.inj ho
        refine .inl ⟨rfl, ?_⟩
        exact wpv_of (wp_fieldB 30 _ 0 rfl 0 64 fForm0 (w.heap.size + 1) 0 (hpar 5 _ (by kernel_rfl) (by kernel_rfl))) (fun _ _ => rfl)
      · obtain rfl := Option.some.inj ho
        refine .inl ⟨rfl, ?_⟩
        have e8 : a.eval (.tmp 8) = .pointer (some ⟨w.heap.size + 1, 0 + 0, none⟩) := hrd 1 _ 8 rfl rfl (by kernel_rfl) (by kernel_rfl)
        exact wpv_of (wp_load_A 27 _ rfl _ e8 _ _ _ hSx.2.1 uPoly sPoly) (fun _ _ => rfl)
      · obtain rfl := Option.some.inj ho
        refine .inl ⟨rfl, ?_⟩
        have e7 : a.eval (.tmp 7) = .int .i64 p := hrd 0 _ 7 rfl rfl (by kernel_rfl) (by kernel_rfl)
        have e9 : a.eval (.tmp 9) = .agg (u8s 64 (f)) := hrd 2 _ 9 rfl rfl (by kernel_rfl) (by kernel_rfl)
        exact wpv_call 51 [.tmp 7, .tmp 9] _ rfl [.int .i64 p, .agg (u8s 64 (f))] (by simp only [List.map_cons, List.map_nil, e7, e9]) Try.call51 ((k1.out w2).mono fun _ _ ⟨h1, h2⟩ => ⟨_, h1, rfl, h2⟩)
      · obtain rfl := Option.some.inj ho
        refine .inl ⟨rfl, ?_⟩
        have e10 : a.eval (.tmp 10) = .bool true := hrd 3 _ 10 rfl rfl (by kernel_rfl) (by kernel_rfl)
        exact wpv_of (wp_not _ _ true rfl e10) (fun _ _ => rfl)
      · obtain rfl := Option.some.inj ho
        refine .inl ⟨rfl, ?_⟩
        have e11 : a.eval (.tmp 11) = .bool false := hrd 4 _ 11 rfl rfl (by kernel_rfl) (by kernel_rfl)
        exact wpv_of (wp_move _ _ rfl e11) (fun _ _ => rfl)
      · obtain rfl := Option.some.inj ho
        refine .inr (.inl ⟨5, false, _, 12, rfl, rfl, rfl, (by kernel_rfl), (by kernel_rfl), fun v w' h => h, ?_⟩)
        have e0 : a.eval (.tmp 0) = .int .i64 p := hpar 0 _ (by kernel_rfl) (by kernel_rfl)
        exact wpv_of (wp_move _ _ rfl e0) (fun _ _ => rfl)
      · obtain rfl := Option.some.inj ho
        refine .inr (.inl ⟨5, false, _, 12, rfl, rfl, rfl, (by kernel_rfl), (by kernel_rfl), fun v w' h => h, ?_⟩)
        exact wpv_of (wp_fieldB 30 _ 1 rfl 64 64 fForm1 (w.heap.size + 1) 0 (hpar 5 _ (by kernel_rfl) (by kernel_rfl))) (fun _ _ => rfl)
      · obtain rfl := Option.some.inj ho
        refine .inr (.inl ⟨5, false, _, 12, rfl, rfl, rfl, (by kernel_rfl), (by kernel_rfl), fun v w' h => h, ?_⟩)
        have e14 : a.eval (.tmp 14) = .pointer (some ⟨w.heap.size + 1, 0 + 64, none⟩) := hrd 7 _ 14 rfl rfl (by kernel_rfl) (by kernel_rfl)
        exact wpv_of (wp_load_B 27 _ rfl _ e14 _ _ _ hSx.2.1 uPoly sPoly) (fun _ _ => rfl)
      · obtain rfl := Option.some.inj ho
        refine .inr (.inl ⟨5, false, _, 12, rfl, rfl, rfl, (by kernel_rfl), (by kernel_rfl), fun v w' h => h, ?_⟩)
        have e13 : a.eval (.tmp 13) = .int .i64 p := hrd 6 _ 13 rfl rfl (by kernel_rfl) (by kernel_rfl)
        have e15 : a.eval (.tmp 15) = .agg (u8s 64 (g)) := hrd 8 _ 15 rfl rfl (by kernel_rfl) (by kernel_rfl)
        exact wpv_call 51 [.tmp 13, .tmp 15] _ rfl [.int .i64 p, .agg (u8s 64 (g))] (by simp only [List.map_cons, List.map_nil, e13, e15]) Try.call51 ((k2.out w2).mono fun _ _ ⟨h1, h2⟩ => ⟨_, h1, rfl, h2⟩)
      · obtain rfl := Option.some.inj ho
        refine .inr (.inl ⟨5, false, _, 12, rfl, rfl, rfl, (by kernel_rfl), (by kernel_rfl), fun v w' h => h, ?_⟩)
        have e16 : a.eval (.tmp 16) = .bool false := hrd 9 _ 16 rfl rfl (by kernel_rfl) (by kernel_rfl)
        exact wpv_of (wp_not _ _ false rfl e16) (fun _ _ => rfl)
      · obtain rfl := Option.some.inj ho
        refine .inl ⟨rfl, ?_⟩
        have e12 : a.eval (.tmp 12) = .bool false := hrd 5 _ 12 rfl rfl (by kernel_rfl) (by kernel_rfl)
        have e17 : a.eval (.tmp 17) = .bool true := hrd 10 _ 17 rfl rfl (by kernel_rfl) (by kernel_rfl)
        exact wpv_of (wp_pickF _ _ _ rfl e12 (.bool true) e17) (fun _ _ => rfl)
      · obtain rfl := Option.some.inj ho
        refine .inl ⟨rfl, ?_⟩
        have e18 : a.eval (.tmp 18) = .bool true := hrd 11 _ 18 rfl rfl (by kernel_rfl) (by kernel_rfl)
        exact wpv_of (wp_move _ _ rfl e18) (fun _ _ => rfl)
      · obtain rfl := Option.some.inj ho
        exact .inr (.inr ⟨12, false, _, 19, rfl, rfl, rfl, (by kernel_rfl), (by kernel_rfl), fun v w' h => .inl h, fun _ => rfl⟩)
      · obtain rfl := Option.some.inj ho
        exact .inr (.inr ⟨12, false, _, 19, rfl, rfl, rfl, (by kernel_rfl), (by kernel_rfl), fun v w' h => .inl h, fun _ => rfl⟩)
      · obtain rfl := Option.some.inj ho
        exact .inr (.inr ⟨12, false, _, 19, rfl, rfl, rfl, (by kernel_rfl), (by kernel_rfl), fun v w' h => .inl h, fun _ => rfl⟩)
      · obtain rfl := Option.some.inj ho
        exact .inr (.inr ⟨12, false, _, 19, rfl, rfl, rfl, (by kernel_rfl), (by kernel_rfl), fun v w' h => .inl h, fun _ => rfl⟩)
      · obtain rfl := Option.some.inj ho
        refine .inl ⟨rfl, ?_⟩
        have e19 : a.eval (.tmp 19) = .bool true := hrd 12 _ 19 rfl rfl (by kernel_rfl) (by kernel_rfl)
        exact wpv_of (wp_pickT _ _ _ rfl e19 (.bool true) rfl) (fun _ _ => rfl)
      · obtain rfl := Option.some.inj ho
        refine .inl ⟨rfl, ?_⟩
        have e24 : a.eval (.tmp 24) = .bool true := hrd 17 _ 24 rfl rfl (by kernel_rfl) (by kernel_rfl)
        exact wpv_of (wp_move _ _ rfl e24) (fun _ _ => rfl)
      · obtain rfl := Option.some.inj ho
        exact .inr (.inr ⟨18, false, _, 25, rfl, rfl, rfl, (by kernel_rfl), (by kernel_rfl), fun v w' h => .inl h, fun _ => rfl⟩)
      · obtain rfl := Option.some.inj ho
        exact .inr (.inr ⟨18, false, _, 25, rfl, rfl, rfl, (by kernel_rfl), (by kernel_rfl), fun v w' h => .inl h, fun _ => rfl⟩)
      · obtain rfl := Option.some.inj ho
        exact .inr (.inr ⟨18, false, _, 25, rfl, rfl, rfl, (by kernel_rfl), (by kernel_rfl), fun v w' h => .inl h, fun _ => rfl⟩)
      · obtain rfl := Option.some.inj ho
        exact .inr (.inr ⟨18, false, _, 25, rfl, rfl, rfl, (by kernel_rfl), (by kernel_rfl), fun v w' h => .inl h, fun _ => rfl⟩)
      · obtain rfl := Option.some.inj ho
        refine .inl ⟨rfl, ?_⟩
        have e25 : a.eval (.tmp 25) = .bool true := hrd 18 _ 25 rfl rfl (by kernel_rfl) (by kernel_rfl)
        exact wpv_of (wp_pickT _ _ _ rfl e25 (.bool true) rfl) (fun _ _ => rfl)
      · obtain rfl := Option.some.inj ho
        refine .inl ⟨rfl, ?_⟩
        have e30 : a.eval (.tmp 30) = .bool true := hrd 23 _ 30 rfl rfl (by kernel_rfl) (by kernel_rfl)
        exact wpv_of (wp_move _ _ rfl e30) (fun _ _ => rfl)
      · obtain rfl := Option.some.inj ho
        exact .inr (.inr ⟨24, false, _, 31, rfl, rfl, rfl, (by kernel_rfl), (by kernel_rfl), fun v w' h => .inl h, fun _ => rfl⟩)
      · obtain rfl := Option.some.inj ho
        exact .inr (.inr ⟨24, false, _, 31, rfl, rfl, rfl, (by kernel_rfl), (by kernel_rfl), fun v w' h => .inl h, fun _ => rfl⟩)
      · obtain rfl := Option.some.inj ho
        exact .inr (.inr ⟨24, false, _, 31, rfl, rfl, rfl, (by kernel_rfl), (by kernel_rfl), fun v w' h => .inl h, fun _ => rfl⟩)
      · obtain rfl := Option.some.inj ho
        exact .inr (.inr ⟨24, false, _, 31, rfl, rfl, rfl, (by kernel_rfl), (by kernel_rfl), fun v w' h => .inl h, fun _ => rfl⟩)
      · obtain rfl := Option.some.inj ho
        exact .inr (.inr ⟨24, false, _, 31, rfl, rfl, rfl, (by kernel_rfl), (by kernel_rfl), fun v w' h => .inl h, fun _ => rfl⟩)
      · obtain rfl := Option.some.inj ho
        exact .inr (.inr ⟨24, false, _, 31, rfl, rfl, rfl, (by kernel_rfl), (by kernel_rfl), fun v w' h => .inl h, fun _ => rfl⟩)
      · obtain rfl := Option.some.inj ho
        exact .inr (.inr ⟨24, false, _, 31, rfl, rfl, rfl, (by kernel_rfl), (by kernel_rfl), fun v w' h => .inl h, fun _ => rfl⟩)
      · obtain rfl := Option.some.inj ho
        refine .inl ⟨rfl, ?_⟩
        have e31 : a.eval (.tmp 31) = .bool true := hrd 24 _ 31 rfl rfl (by kernel_rfl) (by kernel_rfl)
        exact wpv_of (wp_pickT _ _ _ rfl e31 (.bool true) rfl) (fun _ _ => rfl)
      · simp at ho
    intro vals xE hBx hSx hc0
    have e0 : vals 0 = .int .i64 p := hc0 0 (by simp)
    have e1 : vals 1 = .pointer (some ⟨w.heap.size + 1, 0 + 0, none⟩) := hc0 1 (by simp)
    have e2 : vals 2 = .agg (u8s 64 (f)) := hc0 2 (by simp)
    have e3 : vals 3 = .bool true := hc0 3 (by simp)
    have e4 : vals 4 = .bool false := hc0 4 (by simp)
    have e5 : vals 5 = .bool false := hc0 5 (by simp)
    have e6 : vals 6 = .int .i64 p := hc0 6 (by simp)
    have e7 : vals 7 = .pointer (some ⟨w.heap.size + 1, 0 + 64, none⟩) := hc0 7 (by simp)
    have e8 : vals 8 = .agg (u8s 64 (g)) := hc0 8 (by simp)
    have e9 : vals 9 = .bool false := hc0 9 (by simp)
    have e10 : vals 10 = .bool true := hc0 10 (by simp)
    have e11 : vals 11 = .bool true := hc0 11 (by simp)
    have e12 : vals 12 = .bool true := hc0 12 (by simp)
    have e13 : vals 13 = undef := hc0 13 (by simp)
    have e14 : vals 14 = undef := hc0 14 (by simp)
    have e15 : vals 15 = undef := hc0 15 (by simp)
    have e16 : vals 16 = undef := hc0 16 (by simp)
    have e17 : vals 17 = .bool true := hc0 17 (by simp)
    have e18 : vals 18 = .bool true := hc0 18 (by simp)
    have e19 : vals 19 = undef := hc0 19 (by simp)
    have e20 : vals 20 = undef := hc0 20 (by simp)
    have e21 : vals 21 = undef := hc0 21 (by simp)
    have e22 : vals 22 = undef := hc0 22 (by simp)
    have e23 : vals 23 = .bool true := hc0 23 (by simp)
    have e24 : vals 24 = .bool true := hc0 24 (by simp)
    have e25 : vals 25 = undef := hc0 25 (by simp)
    have e26 : vals 26 = undef := hc0 26 (by simp)
    have e27 : vals 27 = undef := hc0 27 (by simp)
    have e28 : vals 28 = undef := hc0 28 (by simp)
    have e29 : vals 29 = undef := hc0 29 (by simp)
    have e30 : vals 30 = undef := hc0 30 (by simp)
    have e31 : vals 31 = undef := hc0 31 (by simp)
    have e32 : vals 32 = .bool true := hc0 32 (by simp)
    simp only [List.length_cons, List.length_nil, Nat.zero_add, Nat.reduceAdd, List.replicate, putAll, if_true, Act.put, List.setIfInBounds_toArray, List.set_cons_zero, List.set_cons_succ, e0, e1, e2, e3, e4, e5, e6, e7, e8, e9, e10, e11, e12, e13, e14, e15, e16, e17, e18, e19, e20, e21, e22, e23, e24, e25, e26, e27, e28, e29, e30, e31, e32]
    replace hA := hSx.1
    replace hB := hSx.2.1
    replace hb := below_step hb hBx
    clear hc0 hSx e0 e1 e2 e3 e4 e5 e6 e7 e8 e9 e10 e11 e12 e13 e14 e15 e16 e17 e18 e19 e20 e21 e22 e23 e24 e25 e26 e27 e28 e29 e30 e31 e32
    go_wp2_with fail
    go_ret
    exact ⟨rfl, hb⟩
  cases t3
  ·
    have hbf : b = false := bad_of hbH.out (fun h => of_decide_eq_false h3H.out h.2.2.1)
    subst hbf
    go_upto_region 1 with (fail)
    refine gen_guard (w := _) (by kernel_rfl) (by kernel_rfl) (by kernel_rfl)
        (fun i => ([fun zv _ => zv = .int .i64 p, fun zv _ => zv = .pointer (some ⟨w.heap.size + 1, 0 + 0, none⟩), fun zv _ => zv = .agg (u8s 64 (f)), fun zv _ => zv = .bool true, fun zv _ => zv = .bool false, fun zv _ => zv = .bool false, fun zv _ => zv = .int .i64 p, fun zv _ => zv = .pointer (some ⟨w.heap.size + 1, 0 + 64, none⟩), fun zv _ => zv = .agg (u8s 64 (g)), fun zv _ => zv = .bool true, fun zv _ => zv = .bool false, fun zv _ => zv = .bool false, fun zv _ => zv = .bool false, fun zv _ => zv = .pointer (some ⟨w.heap.size + 1, 0 + 0, none⟩), fun zv _ => zv = .agg (u8s 64 (f)), fun zv _ => zv = .bool false, fun zv _ => zv = .bool true, fun zv _ => zv = .bool true, fun zv _ => zv = .bool true, fun zv _ => zv = undef, fun zv _ => zv = undef, fun zv _ => zv = undef, fun zv _ => zv = undef, fun zv _ => zv = .bool true, fun zv _ => zv = .bool true, fun zv _ => zv = undef, fun zv _ => zv = undef, fun zv _ => zv = undef, fun zv _ => zv = undef, fun zv _ => zv = undef, fun zv _ => zv = undef, fun zv _ => zv = undef, fun zv _ => zv = .bool true] : List (Value → World → Prop)).getD i (fun _ _ => True))
        (fun w' => Blk w' (w.heap.size) (u8s 64 (cf ds)) 27 ∧ Blk w' (w.heap.size + 1) (u8s 128 (fmF f g)) 30 ∧ True) ⟨hA.drew, hB.drew, trivial⟩ (fun w1 w2 h hb => ⟨h.1.keep hb, h.2.1.keep hb, trivial⟩) ?_ ?_ ?_
    · intro i v w1 w2 h hb
      rcases i with _|_|_|_|_|_|_|_|_|_|_|_|_|_|_|_|_|_|_|_|_|_|_|_|_|_|_|_|_|_|_|_|_|i
      · exact h
      · exact h
      · exact h
      · exact h
      · exact h
      · exact h
      · exact h
      · exact h
      · exact h
      · exact h
      · exact h
      · exact h
      · exact h
      · exact h
      · exact h
      · exact h
      · exact h
      · exact h
      · exact h
      · exact h
      · exact h
      · exact h
      · exact h
      · exact h
      · exact h
      · exact h
      · exact h
      · exact h
      · exact h
      · exact h
      · exact h
      · exact h
      · exact h
      · exact h
    · intro i o ho a w2 hBl hSx hrd hpar
      rcases i with _|_|_|_|_|_|_|_|_|_|_|_|_|_|_|_|_|_|_|_|_|_|_|_|_|_|_|_|_|_|_|_|_|i
      · obtain rfl := Option.some.inj ho
        refine .inl ⟨rfl, ?_⟩
        have e0 : a.eval (.tmp 0) = .int .i64 p := hpar 0 _ (by kernel_rfl) (by kernel_rfl)
        exact wpv_of (wp_move _ _ rfl e0) (fun _ _ => rfl)
      · obtain rfl := Option.some.inj ho
        refine .inl ⟨rfl, ?_⟩
        exact wpv_of (wp_fieldB 30 _ 0 rfl 0 64 fForm0 (w.heap.size + 1) 0 (hpar 5 _ (by kernel_rfl) (by kernel_rfl))) (fun _ _ => rfl)
      · obtain rfl := Option.some.inj ho
        refine .inl ⟨rfl, ?_⟩
        have e8 : a.eval (.tmp 8) = .pointer (some ⟨w.heap.size + 1, 0 + 0, none⟩) := hrd 1 _ 8 rfl rfl (by kernel_rfl) (by kernel_rfl)
        exact wpv_of (wp_load_A 27 _ rfl _ e8 _ _ _ hSx.2.1 uPoly sPoly) (fun _ _ => rfl)
      · obtain rfl := Option.some.inj ho
        refine .inl ⟨rfl, ?_⟩
        have e7 : a.eval (.tmp 7) = .int .i64 p := hrd 0 _ 7 rfl rfl (by kernel_rfl) (by kernel_rfl)
        have e9 : a.eval (.tmp 9) = .agg (u8s 64 (f)) := hrd 2 _ 9 rfl rfl (by kernel_rfl) (by kernel_rfl)
        exact wpv_call 51 [.tmp 7, .tmp 9] _ rfl [.int .i64 p, .agg (u8s 64 (f))] (by simp only [List.map_cons, List.map_nil, e7, e9]) Try.call51 ((k1.out w2).mono fun _ _ ⟨h1, h2⟩ => ⟨_, h1, rfl, h2⟩)
      · obtain rfl := Option.some.inj ho
        refine .inl ⟨rfl, ?_⟩
        have e10 : a.eval (.tmp 10) = .bool true := hrd 3 _ 10 rfl rfl (by kernel_rfl) (by kernel_rfl)
        exact wpv_of (wp_not _ _ true rfl e10) (fun _ _ => rfl)
      · obtain rfl := Option.some.inj ho
        refine .inl ⟨rfl, ?_⟩
        have e11 : a.eval (.tmp 11) = .bool false := hrd 4 _ 11 rfl rfl (by kernel_rfl) (by kernel_rfl)
        exact wpv_of (wp_move _ _ rfl e11) (fun _ _ => rfl)
      · obtain rfl := Option.some.inj ho
        refine .inr (.inl ⟨5, false, _, 12, rfl, rfl, rfl, (by kernel_rfl), (by kernel_rfl), fun v w' h => h, ?_⟩)
        have e0 : a.eval (.tmp 0) = .int .i64 p := hpar 0 _ (by kernel_rfl) (by kernel_rfl)
        exact wpv_of (wp_move _ _ rfl e0) (fun _ _ => rfl)
      · obtain rfl := Option.some.inj ho
        refine .inr (.inl ⟨5, false, _, 12, rfl, rfl, rfl, (by kernel_rfl), (by kernel_rfl), fun v w' h => h, ?_⟩)
        exact wpv_of (wp_fieldB 30 _ 1 rfl 64 64 fForm1 (w.heap.size + 1) 0 (hpar 5 _ (by kernel_rfl) (by kernel_rfl))) (fun _ _ => rfl)
      · obtain rfl := Option.some.inj ho
        refine .inr (.inl ⟨5, false, _, 12, rfl, rfl, rfl, (by kernel_rfl), (by kernel_rfl), fun v w' h => h, ?_⟩)
        have e14 : a.eval (.tmp 14) = .pointer (some ⟨w.heap.size + 1, 0 + 64, none⟩) := hrd 7 _ 14 rfl rfl (by kernel_rfl) (by kernel_rfl)
        exact wpv_of (wp_load_B 27 _ rfl _ e14 _ _ _ hSx.2.1 uPoly sPoly) (fun _ _ => rfl)
      · obtain rfl := Option.some.inj ho
        refine .inr (.inl ⟨5, false, _, 12, rfl, rfl, rfl, (by kernel_rfl), (by kernel_rfl), fun v w' h => h, ?_⟩)
        have e13 : a.eval (.tmp 13) = .int .i64 p := hrd 6 _ 13 rfl rfl (by kernel_rfl) (by kernel_rfl)
        have e15 : a.eval (.tmp 15) = .agg (u8s 64 (g)) := hrd 8 _ 15 rfl rfl (by kernel_rfl) (by kernel_rfl)
        exact wpv_call 51 [.tmp 13, .tmp 15] _ rfl [.int .i64 p, .agg (u8s 64 (g))] (by simp only [List.map_cons, List.map_nil, e13, e15]) Try.call51 ((k2.out w2).mono fun _ _ ⟨h1, h2⟩ => ⟨_, h1, rfl, h2⟩)
      · obtain rfl := Option.some.inj ho
        refine .inr (.inl ⟨5, false, _, 12, rfl, rfl, rfl, (by kernel_rfl), (by kernel_rfl), fun v w' h => h, ?_⟩)
        have e16 : a.eval (.tmp 16) = .bool true := hrd 9 _ 16 rfl rfl (by kernel_rfl) (by kernel_rfl)
        exact wpv_of (wp_not _ _ true rfl e16) (fun _ _ => rfl)
      · obtain rfl := Option.some.inj ho
        refine .inl ⟨rfl, ?_⟩
        have e12 : a.eval (.tmp 12) = .bool false := hrd 5 _ 12 rfl rfl (by kernel_rfl) (by kernel_rfl)
        have e17 : a.eval (.tmp 17) = .bool false := hrd 10 _ 17 rfl rfl (by kernel_rfl) (by kernel_rfl)
        exact wpv_of (wp_pickF _ _ _ rfl e12 (.bool false) e17) (fun _ _ => rfl)
      · obtain rfl := Option.some.inj ho
        refine .inl ⟨rfl, ?_⟩
        have e18 : a.eval (.tmp 18) = .bool false := hrd 11 _ 18 rfl rfl (by kernel_rfl) (by kernel_rfl)
        exact wpv_of (wp_move _ _ rfl e18) (fun _ _ => rfl)
      · obtain rfl := Option.some.inj ho
        refine .inr (.inl ⟨12, false, _, 19, rfl, rfl, rfl, (by kernel_rfl), (by kernel_rfl), fun v w' h => h, ?_⟩)
        exact wpv_of (wp_fieldB 30 _ 0 rfl 0 64 fForm0 (w.heap.size + 1) 0 (hpar 5 _ (by kernel_rfl) (by kernel_rfl))) (fun _ _ => rfl)
      · obtain rfl := Option.some.inj ho
        refine .inr (.inl ⟨12, false, _, 19, rfl, rfl, rfl, (by kernel_rfl), (by kernel_rfl), fun v w' h => h, ?_⟩)
        have e20 : a.eval (.tmp 20) = .pointer (some ⟨w.heap.size + 1, 0 + 0, none⟩) := hrd 13 _ 20 rfl rfl (by kernel_rfl) (by kernel_rfl)
        exact wpv_of (wp_load_A 27 _ rfl _ e20 _ _ _ hSx.2.1 uPoly sPoly) (fun _ _ => rfl)
      · obtain rfl := Option.some.inj ho
        refine .inr (.inl ⟨12, false, _, 19, rfl, rfl, rfl, (by kernel_rfl), (by kernel_rfl), fun v w' h => h, ?_⟩)
        have e21 : a.eval (.tmp 21) = .agg (u8s 64 (f)) := hrd 14 _ 21 rfl rfl (by kernel_rfl) (by kernel_rfl)
        exact wpv_call 39 [.tmp 21] _ rfl [.agg (u8s 64 (f))] (by simp only [List.map_cons, List.map_nil, e21]) Try.call39 ((k3.out w2).mono fun _ _ ⟨h1, h2⟩ => ⟨_, h1, rfl, h2⟩)
      · obtain rfl := Option.some.inj ho
        refine .inr (.inl ⟨12, false, _, 19, rfl, rfl, rfl, (by kernel_rfl), (by kernel_rfl), fun v w' h => h, ?_⟩)
        have e22 : a.eval (.tmp 22) = .bool false := hrd 15 _ 22 rfl rfl (by kernel_rfl) (by kernel_rfl)
        exact wpv_of (wp_not _ _ false rfl e22) (fun _ _ => rfl)
      · obtain rfl := Option.some.inj ho
        refine .inl ⟨rfl, ?_⟩
        have e19 : a.eval (.tmp 19) = .bool false := hrd 12 _ 19 rfl rfl (by kernel_rfl) (by kernel_rfl)
        have e23 : a.eval (.tmp 23) = .bool true := hrd 16 _ 23 rfl rfl (by kernel_rfl) (by kernel_rfl)
        exact wpv_of (wp_pickF _ _ _ rfl e19 (.bool true) e23) (fun _ _ => rfl)
      · obtain rfl := Option.some.inj ho
        refine .inl ⟨rfl, ?_⟩
        have e24 : a.eval (.tmp 24) = .bool true := hrd 17 _ 24 rfl rfl (by kernel_rfl) (by kernel_rfl)
        exact wpv_of (wp_move _ _ rfl e24) (fun _ _ => rfl)
      · obtain rfl := Option.some.inj ho
        exact .inr (.inr ⟨18, false, _, 25, rfl, rfl, rfl, (by kernel_rfl), (by kernel_rfl), fun v w' h => .inl h, fun _ => rfl⟩)
      · obtain rfl := Option.some.inj ho
        exact .inr (.inr ⟨18, false, _, 25, rfl, rfl, rfl, (by kernel_rfl), (by kernel_rfl), fun v w' h => .inl h, fun _ => rfl⟩)
      · obtain rfl := Option.some.inj ho
        exact .inr (.inr ⟨18, false, _, 25, rfl, rfl, rfl, (by kernel_rfl), (by kernel_rfl), fun v w' h => .inl h, fun _ => rfl⟩)
      · obtain rfl := Option.some.inj ho
        exact .inr (.inr ⟨18, false, _, 25, rfl, rfl, rfl, (by kernel_rfl), (by kernel_rfl), fun v w' h => .inl h, fun _ => rfl⟩)
      · obtain rfl := Option.some.inj ho
        refine .inl ⟨rfl, ?_⟩
        have e25 : a.eval (.tmp 25) = .bool true := hrd 18 _ 25 rfl rfl (by kernel_rfl) (by kernel_rfl)
        exact wpv_of (wp_pickT _ _ _ rfl e25 (.bool true) rfl) (fun _ _ => rfl)
      · obtain rfl := Option.some.inj ho
        refine .inl ⟨rfl, ?_⟩
        have e30 : a.eval (.tmp 30) = .bool true := hrd 23 _ 30 rfl rfl (by kernel_rfl) (by kernel_rfl)
        exact wpv_of (wp_move _ _ rfl e30) (fun _ _ => rfl)
      · obtain rfl := Option.some.inj ho
        exact .inr (.inr ⟨24, false, _, 31, rfl, rfl, rfl, (by kernel_rfl), (by kernel_rfl), fun v w' h => .inl h, fun _ => rfl⟩)
      · obtain rfl := Option.some.inj ho
        exact .inr (.inr ⟨24, false, _, 31, rfl, rfl, rfl, (by kernel_rfl), (by kernel_rfl), fun v w' h => .inl h, fun _ => rfl⟩)
      · obtain rfl := Option.some.inj ho
        exact .inr (.inr ⟨24, false, _, 31, rfl, rfl, rfl, (by kernel_rfl), (by kernel_rfl), fun v w' h => .inl h, fun _ => rfl⟩)
      · obtain rfl := Option.some.inj ho
        exact .inr (.inr ⟨24, false, _, 31, rfl, rfl, rfl, (by kernel_rfl), (by kernel_rfl), fun v w' h => .inl h, fun _ => rfl⟩)
      · obtain rfl := Option.some.inj ho
        exact .inr (.inr ⟨24, false, _, 31, rfl, rfl, rfl, (by kernel_rfl), (by kernel_rfl), fun v w' h => .inl h, fun _ => rfl⟩)
      · obtain rfl := Option.some.inj ho
        exact .inr (.inr ⟨24, false, _, 31, rfl, rfl, rfl, (by kernel_rfl), (by kernel_rfl), fun v w' h => .inl h, fun _ => rfl⟩)
      · obtain rfl := Option.some.inj ho
        exact .inr (.inr ⟨24, false, _, 31, rfl, rfl, rfl, (by kernel_rfl), (by kernel_rfl), fun v w' h => .inl h, fun _ => rfl⟩)
      · obtain rfl := Option.some.inj ho
        refine .inl ⟨rfl, ?_⟩
        have e31 : a.eval (.tmp 31) = .bool true := hrd 24 _ 31 rfl rfl (by kernel_rfl) (by kernel_rfl)
        exact wpv_of (wp_pickT _ _ _ rfl e31 (.bool true) rfl) (fun _ _ => rfl)
      · simp at ho
    intro vals xE hBx hSx hc0
    have e0 : vals 0 = .int .i64 p := hc0 0 (by simp)
    have e1 : vals 1 = .pointer (some ⟨w.heap.size + 1, 0 + 0, none⟩) := hc0 1 (by simp)
    have e2 : vals 2 = .agg (u8s 64 (f)) := hc0 2 (by simp)
    have e3 : vals 3 = .bool true := hc0 3 (by simp)
    have e4 : vals 4 = .bool false := hc0 4 (by simp)
    have e5 : vals 5 = .bool false := hc0 5 (by simp)
    have e6 : vals 6 = .int .i64 p := hc0 6 (by simp)
    have e7 : vals 7 = .pointer (some ⟨w.heap.size + 1, 0 + 64, none⟩) := hc0 7 (by simp)
    have e8 : vals 8 = .agg (u8s 64 (g)) := hc0 8 (by simp)
    have e9 : vals 9 = .bool true := hc0 9 (by simp)
    have e10 : vals 10 = .bool false := hc0 10 (by simp)
    have e11 : vals 11 = .bool false := hc0 11 (by simp)
    have e12 : vals 12 = .bool false := hc0 12 (by simp)
    have e13 : vals 13 = .pointer (some ⟨w.heap.size + 1, 0 + 0, none⟩) := hc0 13 (by simp)
    have e14 : vals 14 = .agg (u8s 64 (f)) := hc0 14 (by simp)
    have e15 : vals 15 = .bool false := hc0 15 (by simp)
    have e16 : vals 16 = .bool true := hc0 16 (by simp)
    have e17 : vals 17 = .bool true := hc0 17 (by simp)
    have e18 : vals 18 = .bool true := hc0 18 (by simp)
    have e19 : vals 19 = undef := hc0 19 (by simp)
    have e20 : vals 20 = undef := hc0 20 (by simp)
    have e21 : vals 21 = undef := hc0 21 (by simp)
    have e22 : vals 22 = undef := hc0 22 (by simp)
    have e23 : vals 23 = .bool true := hc0 23 (by simp)
    have e24 : vals 24 = .bool true := hc0 24 (by simp)
    have e25 : vals 25 = undef := hc0 25 (by simp)
    have e26 : vals 26 = undef := hc0 26 (by simp)
    have e27 : vals 27 = undef := hc0 27 (by simp)
    have e28 : vals 28 = undef := hc0 28 (by simp)
    have e29 : vals 29 = undef := hc0 29 (by simp)
    have e30 : vals 30 = undef := hc0 30 (by simp)
    have e31 : vals 31 = undef := hc0 31 (by simp)
    have e32 : vals 32 = .bool true := hc0 32 (by simp)
    simp only [List.length_cons, List.length_nil, Nat.zero_add, Nat.reduceAdd, List.replicate, putAll, if_true, Act.put, List.setIfInBounds_toArray, List.set_cons_zero, List.set_cons_succ, e0, e1, e2, e3, e4, e5, e6, e7, e8, e9, e10, e11, e12, e13, e14, e15, e16, e17, e18, e19, e20, e21, e22, e23, e24, e25, e26, e27, e28, e29, e30, e31, e32]
    replace hA := hSx.1
    replace hB := hSx.2.1
    replace hb := below_step hb hBx
    clear hc0 hSx e0 e1 e2 e3 e4 e5 e6 e7 e8 e9 e10 e11 e12 e13 e14 e15 e16 e17 e18 e19 e20 e21 e22 e23 e24 e25 e26 e27 e28 e29 e30 e31 e32
    go_wp2_with fail
    go_ret
    exact ⟨rfl, hb⟩
  obtain ⟨t4, q4⟩ : ∃ t, cmpB .gtr ((La : Int) - 1) 12 = t := ⟨_, rfl⟩
  cases t4
  case' true =>
    have hbf : b = false := bad_of hbH.out (fun h => by have := h.2.2.2.1; have := hLaH.out; have := of_decide_eq_true q4; omega)
    subst hbf
    go_upto_region 1 with (fail)
    refine gen_guard (w := _) (by kernel_rfl) (by kernel_rfl) (by kernel_rfl)
        (fun i => ([fun zv _ => zv = .int .i64 p, fun zv _ => zv = .pointer (some ⟨w.heap.size + 1, 0 + 0, none⟩), fun zv _ => zv = .agg (u8s 64 (f)), fun zv _ => zv = .bool true, fun zv _ => zv = .bool false, fun zv _ => zv = .bool false, fun zv _ => zv = .int .i64 p, fun zv _ => zv = .pointer (some ⟨w.heap.size + 1, 0 + 64, none⟩), fun zv _ => zv = .agg (u8s 64 (g)), fun zv _ => zv = .bool true, fun zv _ => zv = .bool false, fun zv _ => zv = .bool false, fun zv _ => zv = .bool false, fun zv _ => zv = .pointer (some ⟨w.heap.size + 1, 0 + 0, none⟩), fun zv _ => zv = .agg (u8s 64 (f)), fun zv _ => zv = .bool true, fun zv _ => zv = .bool false, fun zv _ => zv = .bool false, fun zv _ => zv = .bool false, fun zv _ => zv = .pointer (some ⟨w.heap.size + 1, 0 + 0, none⟩), fun zv _ => zv = .agg (u8s 64 (f)), fun zv _ => zv = .int .i64 ((La : Int) - 1), fun zv _ => zv = .bool true, fun zv _ => zv = .bool true, fun zv _ => zv = .bool true, fun zv _ => zv = undef, fun zv _ => zv = undef, fun zv _ => zv = undef, fun zv _ => zv = undef, fun zv _ => zv = undef, fun zv _ => zv = undef, fun zv _ => zv = undef, fun zv _ => zv = .bool true] : List (Value → World → Prop)).getD i (fun _ _ => True))
        (fun w' => Blk w' (w.heap.size) (u8s 64 (cf ds)) 27 ∧ Blk w' (w.heap.size + 1) (u8s 128 (fmF f g)) 30 ∧ True) ⟨hA.drew, hB.drew, trivial⟩ (fun w1 w2 h hb => ⟨h.1.keep hb, h.2.1.keep hb, trivial⟩) ?_ ?_ ?_
    · intro i v w1 w2 h hb
      rcases i with _|_|_|_|_|_|_|_|_|_|_|_|_|_|_|_|_|_|_|_|_|_|_|_|_|_|_|_|_|_|_|_|_|i
      · exact h
      · exact h
      · exact h
      · exact h
      · exact h
      · exact h
      · exact h
      · exact h
      · exact h
      · exact h
      · exact h
      · exact h
      · exact h
      · exact h
      · exact h
      · exact h
      · exact h
      · exact h
      · exact h
      · exact h
      · exact h
      · exact h
      · exact h
      · exact h
      · exact h
      · exact h
      · exact h
      · exact h
      · exact h
      · exact h
      · exact h
      · exact h
      · exact h
      · exact h
    · intro i o ho a w2 hBl hSx hrd hpar
      rcases i with _|_|_|_|_|_|_|_|_|_|_|_|_|_|_|_|_|_|_|_|_|_|_|_|_|_|_|_|_|_|_|_|_|i
      · obtain rfl := Option.some.inj ho
        refine .inl ⟨rfl, ?_⟩
        have e0 : a.eval (.tmp 0) = .int .i64 p := hpar 0 _ (by kernel_rfl) (by kernel_rfl)
        exact wpv_of (wp_move _ _ rfl e0) (fun _ _ => rfl)
      · obtain rfl := Option.some.inj ho
        refine .inl ⟨rfl, ?_⟩
        exact wpv_of (wp_fieldB 30 _ 0 rfl 0 64 fForm0 (w.heap.size + 1) 0 (hpar 5 _ (by kernel_rfl) (by kernel_rfl))) (fun _ _ => rfl)
      · obtain rfl := Option.some.inj ho
        refine .inl ⟨rfl, ?_⟩
        have e8 : a.eval (.tmp 8) = .pointer (some ⟨w.heap.size + 1, 0 + 0, none⟩) := hrd 1 _ 8 rfl rfl (by kernel_rfl) (by kernel_rfl)
        exact wpv_of (wp_load_A 27 _ rfl _ e8 _ _ _ hSx.2.1 uPoly sPoly) (fun _ _ => rfl)
      · obtain rfl := Option.some.inj ho
        refine .inl ⟨rfl, ?_⟩
        have e7 : a.eval (.tmp 7) = .int .i64 p := hrd 0 _ 7 rfl rfl (by kernel_rfl) (by kernel_rfl)
        have e9 : a.eval (.tmp 9) = .agg (u8s 64 (f)) := hrd 2 _ 9 rfl rfl (by kernel_rfl) (by kernel_rfl)
        exact wpv_call 51 [.tmp 7, .tmp 9] _ rfl [.int .i64 p, .agg (u8s 64 (f))] (by simp only [List.map_cons, List.map_nil, e7, e9]) Try.call51 ((k1.out w2).mono fun _ _ ⟨h1, h2⟩ => ⟨_, h1, rfl, h2⟩)
      · obtain rfl := Option.some.inj ho
        refine .inl ⟨rfl, ?_⟩
        have e10 : a.eval (.tmp 10) = .bool true := hrd 3 _ 10 rfl rfl (by kernel_rfl) (by kernel_rfl)
        exact wpv_of (wp_not _ _ true rfl e10) (fun _ _ => rfl)
      · obtain rfl := Option.some.inj ho
        refine .inl ⟨rfl, ?_⟩
        have e11 : a.eval (.tmp 11) = .bool false := hrd 4 _ 11 rfl rfl (by kernel_rfl) (by kernel_rfl)
        exact wpv_of (wp_move _ _ rfl e11) (fun _ _ => rfl)
      · obtain rfl := Option.some.inj ho
        refine .inr (.inl ⟨5, false, _, 12, rfl, rfl, rfl, (by kernel_rfl), (by kernel_rfl), fun v w' h => h, ?_⟩)
        have e0 : a.eval (.tmp 0) = .int .i64 p := hpar 0 _ (by kernel_rfl) (by kernel_rfl)
        exact wpv_of (wp_move _ _ rfl e0) (fun _ _ => rfl)
      · obtain rfl := Option.some.inj ho
        refine .inr (.inl ⟨5, false, _, 12, rfl, rfl, rfl, (by kernel_rfl), (by kernel_rfl), fun v w' h => h, ?_⟩)
        exact wpv_of (wp_fieldB 30 _ 1 rfl 64 64 fForm1 (w.heap.size + 1) 0 (hpar 5 _ (by kernel_rfl) (by kernel_rfl))) (fun _ _ => rfl)
      · obtain rfl := Option.some.inj ho
        refine .inr (.inl ⟨5, false, _, 12, rfl, rfl, rfl, (by kernel_rfl), (by kernel_rfl), fun v w' h => h, ?_⟩)
        have e14 : a.eval (.tmp 14) = .pointer (some ⟨w.heap.size + 1, 0 + 64, none⟩) := hrd 7 _ 14 rfl rfl (by kernel_rfl) (by kernel_rfl)
        exact wpv_of (wp_load_B 27 _ rfl _ e14 _ _ _ hSx.2.1 uPoly sPoly) (fun _ _ => rfl)
      · obtain rfl := Option.some.inj ho
        refine .inr (.inl ⟨5, false, _, 12, rfl, rfl, rfl, (by kernel_rfl), (by kernel_rfl), fun v w' h => h, ?_⟩)
        have e13 : a.eval (.tmp 13) = .int .i64 p := hrd 6 _ 13 rfl rfl (by kernel_rfl) (by kernel_rfl)
        have e15 : a.eval (.tmp 15) = .agg (u8s 64 (g)) := hrd 8 _ 15 rfl rfl (by kernel_rfl) (by kernel_rfl)
        exact wpv_call 51 [.tmp 13, .tmp 15] _ rfl [.int .i64 p, .agg (u8s 64 (g))] (by simp only [List.map_cons, List.map_nil, e13, e15]) Try.call51 ((k2.out w2).mono fun _ _ ⟨h1, h2⟩ => ⟨_, h1, rfl, h2⟩)
      · obtain rfl := Option.some.inj ho
        refine .inr (.inl ⟨5, false, _, 12, rfl, rfl, rfl, (by kernel_rfl), (by kernel_rfl), fun v w' h => h, ?_⟩)
        have e16 : a.eval (.tmp 16) = .bool true := hrd 9 _ 16 rfl rfl (by kernel_rfl) (by kernel_rfl)
        exact wpv_of (wp_not _ _ true rfl e16) (fun _ _ => rfl)
      · obtain rfl := Option.some.inj ho
        refine .inl ⟨rfl, ?_⟩
        have e12 : a.eval (.tmp 12) = .bool false := hrd 5 _ 12 rfl rfl (by kernel_rfl) (by kernel_rfl)
        have e17 : a.eval (.tmp 17) = .bool false := hrd 10 _ 17 rfl rfl (by kernel_rfl) (by kernel_rfl)
        exact wpv_of (wp_pickF _ _ _ rfl e12 (.bool false) e17) (fun _ _ => rfl)
      · obtain rfl := Option.some.inj ho
        refine .inl ⟨rfl, ?_⟩
        have e18 : a.eval (.tmp 18) = .bool false := hrd 11 _ 18 rfl rfl (by kernel_rfl) (by kernel_rfl)
        exact wpv_of (wp_move _ _ rfl e18) (fun _ _ => rfl)
      · obtain rfl := Option.some.inj ho
        refine .inr (.inl ⟨12, false, _, 19, rfl, rfl, rfl, (by kernel_rfl), (by kernel_rfl), fun v w' h => h, ?_⟩)
        exact wpv_of (wp_fieldB 30 _ 0 rfl 0 64 fForm0 (w.heap.size + 1) 0 (hpar 5 _ (by kernel_rfl) (by kernel_rfl))) (fun _ _ => rfl)
      · obtain rfl := Option.some.inj ho
        refine .inr (.inl ⟨12, false, _, 19, rfl, rfl, rfl, (by kernel_rfl), (by kernel_rfl), fun v w' h => h, ?_⟩)
        have e20 : a.eval (.tmp 20) = .pointer (some ⟨w.heap.size + 1, 0 + 0, none⟩) := hrd 13 _ 20 rfl rfl (by kernel_rfl) (by kernel_rfl)
        exact wpv_of (wp_load_A 27 _ rfl _ e20 _ _ _ hSx.2.1 uPoly sPoly) (fun _ _ => rfl)
      · obtain rfl := Option.some.inj ho
        refine .inr (.inl ⟨12, false, _, 19, rfl, rfl, rfl, (by kernel_rfl), (by kernel_rfl), fun v w' h => h, ?_⟩)
        have e21 : a.eval (.tmp 21) = .agg (u8s 64 (f)) := hrd 14 _ 21 rfl rfl (by kernel_rfl) (by kernel_rfl)
        exact wpv_call 39 [.tmp 21] _ rfl [.agg (u8s 64 (f))] (by simp only [List.map_cons, List.map_nil, e21]) Try.call39 ((k3.out w2).mono fun _ _ ⟨h1, h2⟩ => ⟨_, h1, rfl, h2⟩)
      · obtain rfl := Option.some.inj ho
        refine .inr (.inl ⟨12, false, _, 19, rfl, rfl, rfl, (by kernel_rfl), (by kernel_rfl), fun v w' h => h, ?_⟩)
        have e22 : a.eval (.tmp 22) = .bool true := hrd 15 _ 22 rfl rfl (by kernel_rfl) (by kernel_rfl)
        exact wpv_of (wp_not _ _ true rfl e22) (fun _ _ => rfl)
      · obtain rfl := Option.some.inj ho
        refine .inl ⟨rfl, ?_⟩
        have e19 : a.eval (.tmp 19) = .bool false := hrd 12 _ 19 rfl rfl (by kernel_rfl) (by kernel_rfl)
        have e23 : a.eval (.tmp 23) = .bool false := hrd 16 _ 23 rfl rfl (by kernel_rfl) (by kernel_rfl)
        exact wpv_of (wp_pickF _ _ _ rfl e19 (.bool false) e23) (fun _ _ => rfl)
      · obtain rfl := Option.some.inj ho
        refine .inl ⟨rfl, ?_⟩
        have e24 : a.eval (.tmp 24) = .bool false := hrd 17 _ 24 rfl rfl (by kernel_rfl) (by kernel_rfl)
        exact wpv_of (wp_move _ _ rfl e24) (fun _ _ => rfl)
      · obtain rfl := Option.some.inj ho
        refine .inr (.inl ⟨18, false, _, 25, rfl, rfl, rfl, (by kernel_rfl), (by kernel_rfl), fun v w' h => h, ?_⟩)
        exact wpv_of (wp_fieldB 30 _ 0 rfl 0 64 fForm0 (w.heap.size + 1) 0 (hpar 5 _ (by kernel_rfl) (by kernel_rfl))) (fun _ _ => rfl)
      · obtain rfl := Option.some.inj ho
        refine .inr (.inl ⟨18, false, _, 25, rfl, rfl, rfl, (by kernel_rfl), (by kernel_rfl), fun v w' h => h, ?_⟩)
        have e26 : a.eval (.tmp 26) = .pointer (some ⟨w.heap.size + 1, 0 + 0, none⟩) := hrd 19 _ 26 rfl rfl (by kernel_rfl) (by kernel_rfl)
        exact wpv_of (wp_load_A 27 _ rfl _ e26 _ _ _ hSx.2.1 uPoly sPoly) (fun _ _ => rfl)
      · obtain rfl := Option.some.inj ho
        refine .inr (.inl ⟨18, false, _, 25, rfl, rfl, rfl, (by kernel_rfl), (by kernel_rfl), fun v w' h => h, ?_⟩)
        have e27 : a.eval (.tmp 27) = .agg (u8s 64 (f)) := hrd 20 _ 27 rfl rfl (by kernel_rfl) (by kernel_rfl)
        exact wpv_call 27 [.tmp 27] _ rfl [.agg (u8s 64 (f))] (by simp only [List.map_cons, List.map_nil, e27]) Try.call27 ((hdf.out w2).mono fun _ _ ⟨h1, h2⟩ => ⟨_, h1, rfl, h2⟩)
      · obtain rfl := Option.some.inj ho
        refine .inr (.inl ⟨18, false, _, 25, rfl, rfl, rfl, (by kernel_rfl), (by kernel_rfl), fun v w' h => h, ?_⟩)
        have e28 : a.eval (.tmp 28) = .int .i64 ((La : Int) - 1) := hrd 21 _ 28 rfl rfl (by kernel_rfl) (by kernel_rfl)
        exact wpv_of (wp_cmp .gtr _ _ _ _ rfl rfl .i64 _ _ e28 rfl _ q4) (fun _ _ => rfl)
      · obtain rfl := Option.some.inj ho
        refine .inl ⟨rfl, ?_⟩
        have e25 : a.eval (.tmp 25) = .bool false := hrd 18 _ 25 rfl rfl (by kernel_rfl) (by kernel_rfl)
        have e29 : a.eval (.tmp 29) = .bool true := hrd 22 _ 29 rfl rfl (by kernel_rfl) (by kernel_rfl)
        exact wpv_of (wp_pickF _ _ _ rfl e25 (.bool true) e29) (fun _ _ => rfl)
      · obtain rfl := Option.some.inj ho
        refine .inl ⟨rfl, ?_⟩
        have e30 : a.eval (.tmp 30) = .bool true := hrd 23 _ 30 rfl rfl (by kernel_rfl) (by kernel_rfl)
        exact wpv_of (wp_move _ _ rfl e30) (fun _ _ => rfl)
      · obtain rfl := Option.some.inj ho
        exact .inr (.inr ⟨24, false, _, 31, rfl, rfl, rfl, (by kernel_rfl), (by kernel_rfl), fun v w' h => .inl h, fun _ => rfl⟩)
      · obtain rfl := Option.some.inj ho
        exact .inr (.inr ⟨24, false, _, 31, rfl, rfl, rfl, (by kernel_rfl), (by kernel_rfl), fun v w' h => .inl h, fun _ => rfl⟩)
      · obtain rfl := Option.some.inj ho
        exact .inr (.inr ⟨24, false, _, 31, rfl, rfl, rfl, (by kernel_rfl), (by kernel_rfl), fun v w' h => .inl h, fun _ => rfl⟩)
      · obtain rfl := Option.some.inj ho
        exact .inr (.inr ⟨24, false, _, 31, rfl, rfl, rfl, (by kernel_rfl), (by kernel_rfl), fun v w' h => .inl h, fun _ => rfl⟩)
      · obtain rfl := Option.some.inj ho
        exact .inr (.inr ⟨24, false, _, 31, rfl, rfl, rfl, (by kernel_rfl), (by kernel_rfl), fun v w' h => .inl h, fun _ => rfl⟩)
      · obtain rfl := Option.some.inj ho
        exact .inr (.inr ⟨24, false, _, 31, rfl, rfl, rfl, (by kernel_rfl), (by kernel_rfl), fun v w' h => .inl h, fun _ => rfl⟩)
      · obtain rfl := Option.some.inj ho
        exact .inr (.inr ⟨24, false, _, 31, rfl, rfl, rfl, (by kernel_rfl), (by kernel_rfl), fun v w' h => .inl h, fun _ => rfl⟩)
      · obtain rfl := Option.some.inj ho
        refine .inl ⟨rfl, ?_⟩
        have e31 : a.eval (.tmp 31) = .bool true := hrd 24 _ 31 rfl rfl (by kernel_rfl) (by kernel_rfl)
        exact wpv_of (wp_pickT _ _ _ rfl e31 (.bool true) rfl) (fun _ _ => rfl)
      · simp at ho
    intro vals xE hBx hSx hc0
    have e0 : vals 0 = .int .i64 p := hc0 0 (by simp)
    have e1 : vals 1 = .pointer (some ⟨w.heap.size + 1, 0 + 0, none⟩) := hc0 1 (by simp)
    have e2 : vals 2 = .agg (u8s 64 (f)) := hc0 2 (by simp)
    have e3 : vals 3 = .bool true := hc0 3 (by simp)
    have e4 : vals 4 = .bool false := hc0 4 (by simp)
    have e5 : vals 5 = .bool false := hc0 5 (by simp)
    have e6 : vals 6 = .int .i64 p := hc0 6 (by simp)
    have e7 : vals 7 = .pointer (some ⟨w.heap.size + 1, 0 + 64, none⟩) := hc0 7 (by simp)
    have e8 : vals 8 = .agg (u8s 64 (g)) := hc0 8 (by simp)
    have e9 : vals 9 = .bool true := hc0 9 (by simp)
    have e10 : vals 10 = .bool false := hc0 10 (by simp)
    have e11 : vals 11 = .bool false := hc0 11 (by simp)
    have e12 : vals 12 = .bool false := hc0 12 (by simp)
    have e13 : vals 13 = .pointer (some ⟨w.heap.size + 1, 0 + 0, none⟩) := hc0 13 (by simp)
    have e14 : vals 14 = .agg (u8s 64 (f)) := hc0 14 (by simp)
    have e15 : vals 15 = .bool true := hc0 15 (by simp)
    have e16 : vals 16 = .bool false := hc0 16 (by simp)
    have e17 : vals 17 = .bool false := hc0 17 (by simp)
    have e18 : vals 18 = .bool false := hc0 18 (by simp)
    have e19 : vals 19 = .pointer (some ⟨w.heap.size + 1, 0 + 0, none⟩) := hc0 19 (by simp)
    have e20 : vals 20 = .agg (u8s 64 (f)) := hc0 20 (by simp)
    have e21 : vals 21 = .int .i64 ((La : Int) - 1) := hc0 21 (by simp)
    have e22 : vals 22 = .bool true := hc0 22 (by simp)
    have e23 : vals 23 = .bool true := hc0 23 (by simp)
    have e24 : vals 24 = .bool true := hc0 24 (by simp)
    have e25 : vals 25 = undef := hc0 25 (by simp)
    have e26 : vals 26 = undef := hc0 26 (by simp)
    have e27 : vals 27 = undef := hc0 27 (by simp)
    have e28 : vals 28 = undef := hc0 28 (by simp)
    have e29 : vals 29 = undef := hc0 29 (by simp)
    have e30 : vals 30 = undef := hc0 30 (by simp)
    have e31 : vals 31 = undef := hc0 31 (by simp)
    have e32 : vals 32 = .bool true := hc0 32 (by simp)
    simp only [List.length_cons, List.length_nil, Nat.zero_add, Nat.reduceAdd, List.replicate, putAll, if_true, Act.put, List.setIfInBounds_toArray, List.set_cons_zero, List.set_cons_succ, e0, e1, e2, e3, e4, e5, e6, e7, e8, e9, e10, e11, e12, e13, e14, e15, e16, e17, e18, e19, e20, e21, e22, e23, e24, e25, e26, e27, e28, e29, e30, e31, e32]
    replace hA := hSx.1
    replace hB := hSx.2.1
    replace hb := below_step hb hBx
    clear hc0 hSx e0 e1 e2 e3 e4 e5 e6 e7 e8 e9 e10 e11 e12 e13 e14 e15 e16 e17 e18 e19 e20 e21 e22 e23 e24 e25 e26 e27 e28 e29 e30 e31 e32
    go_wp2_with fail
    go_ret
    exact ⟨rfl, hb⟩
  obtain ⟨t5, q5⟩ : ∃ t, cmpB .geq ((Lb : Int) - 1) ((La : Int) - 1) = t := ⟨_, rfl⟩
  cases t5
  case' true =>
    have hbf : b = false := bad_of hbH.out (fun h => by have := h.2.2.2.2.1; have := hLaH.out; have := hLbH.out; have := of_decide_eq_true q5; omega)
    subst hbf
    go_upto_region 1 with (fail)
    refine gen_guard (w := _) (by kernel_rfl) (by kernel_rfl) (by kernel_rfl)
        (fun i => ([fun zv _ => zv = .int .i64 p, fun zv _ => zv = .pointer (some ⟨w.heap.size + 1, 0 + 0, none⟩), fun zv _ => zv = .agg (u8s 64 (f)), fun zv _ => zv = .bool true, fun zv _ => zv = .bool false, fun zv _ => zv = .bool false, fun zv _ => zv = .int .i64 p, fun zv _ => zv = .pointer (some ⟨w.heap.size + 1, 0 + 64, none⟩), fun zv _ => zv = .agg (u8s 64 (g)), fun zv _ => zv = .bool true, fun zv _ => zv = .bool false, fun zv _ => zv = .bool false, fun zv _ => zv = .bool false, fun zv _ => zv = .pointer (some ⟨w.heap.size + 1, 0 + 0, none⟩), fun zv _ => zv = .agg (u8s 64 (f)), fun zv _ => zv = .bool true, fun zv _ => zv = .bool false, fun zv _ => zv = .bool false, fun zv _ => zv = .bool false, fun zv _ => zv = .pointer (some ⟨w.heap.size + 1, 0 + 0, none⟩), fun zv _ => zv = .agg (u8s 64 (f)), fun zv _ => zv = .int .i64 ((La : Int) - 1), fun zv _ => zv = .bool false, fun zv _ => zv = .bool false, fun zv _ => zv = .bool false, fun zv _ => zv = .pointer (some ⟨w.heap.size + 1, 0 + 64, none⟩), fun zv _ => zv = .agg (u8s 64 (g)), fun zv _ => zv = .int .i64 ((Lb : Int) - 1), fun zv _ => zv = .pointer (some ⟨w.heap.size + 1, 0 + 0, none⟩), fun zv _ => zv = .agg (u8s 64 (f)), fun zv _ => zv = .int .i64 ((La : Int) - 1), fun zv _ => zv = .bool true, fun zv _ => zv = .bool true] : List (Value → World → Prop)).getD i (fun _ _ => True))
        (fun w' => Blk w' (w.heap.size) (u8s 64 (cf ds)) 27 ∧ Blk w' (w.heap.size + 1) (u8s 128 (fmF f g)) 30 ∧ True) ⟨hA.drew, hB.drew, trivial⟩ (fun w1 w2 h hb => ⟨h.1.keep hb, h.2.1.keep hb, trivial⟩) ?_ ?_ ?_
    · intro i v w1 w2 h hb
      rcases i with _|_|_|_|_|_|_|_|_|_|_|_|_|_|_|_|_|_|_|_|_|_|_|_|_|_|_|_|_|_|_|_|_|i
      · exact h
      · exact h
      · exact h
      · exact h
      · exact h
      · exact h
      · exact h
      · exact h
      · exact h
      · exact h
      · exact h
      · exact h
      · exact h
      · exact h
      · exact h
      · exact h
      · exact h
      · exact h
      · exact h
      · exact h
      · exact h
      · exact h
      · exact h
      · exact h
      · exact h
      · exact h
      · exact h
      · exact h
      · exact h
      · exact h
      · exact h
      · exact h
      · exact h
      · exact h
    · intro i o ho a w2 hBl hSx hrd hpar
      rcases i with _|_|_|_|_|_|_|_|_|_|_|_|_|_|_|_|_|_|_|_|_|_|_|_|_|_|_|_|_|_|_|_|_|i
      · obtain rfl := Option.some.inj ho
        refine .inl ⟨rfl, ?_⟩
        have e0 : a.eval (.tmp 0) = .int .i64 p := hpar 0 _ (by kernel_rfl) (by kernel_rfl)
        exact wpv_of (wp_move _ _ rfl e0) (fun _ _ => rfl)
      · obtain rfl := Option.some.inj ho
        refine .inl ⟨rfl, ?_⟩
        exact wpv_of (wp_fieldB 30 _ 0 rfl 0 64 fForm0 (w.heap.size + 1) 0 (hpar 5 _ (by kernel_rfl) (by kernel_rfl))) (fun _ _ => rfl)
      · obtain rfl := Option.some.inj ho
        refine .inl ⟨rfl, ?_⟩
        have e8 : a.eval (.tmp 8) = .pointer (some ⟨w.heap.size + 1, 0 + 0, none⟩) := hrd 1 _ 8 rfl rfl (by kernel_rfl) (by kernel_rfl)
        exact wpv_of (wp_load_A 27 _ rfl _ e8 _ _ _ hSx.2.1 uPoly sPoly) (fun _ _ => rfl)
      · obtain rfl := Option.some.inj ho
        refine .inl ⟨rfl, ?_⟩
        have e7 : a.eval (.tmp 7) = .int .i64 p := hrd 0 _ 7 rfl rfl (by kernel_rfl) (by kernel_rfl)
        have e9 : a.eval (.tmp 9) = .agg (u8s 64 (f)) := hrd 2 _ 9 rfl rfl (by kernel_rfl) (by kernel_rfl)
        exact wpv_call 51 [.tmp 7, .tmp 9] _ rfl [.int .i64 p, .agg (u8s 64 (f))] (by simp only [List.map_cons, List.map_nil, e7, e9]) Try.call51 ((k1.out w2).mono fun _ _ ⟨h1, h2⟩ => ⟨_, h1, rfl, h2⟩)
      · obtain rfl := Option.some.inj ho
        refine .inl ⟨rfl, ?_⟩
        have e10 : a.eval (.tmp 10) = .bool true := hrd 3 _ 10 rfl rfl (by kernel_rfl) (by kernel_rfl)
        exact wpv_of (wp_not _ _ true rfl e10) (fun _ _ => rfl)
      · obtain rfl := Option.some.inj ho
        refine .inl ⟨rfl, ?_⟩
        have e11 : a.eval (.tmp 11) = .bool false := hrd 4 _ 11 rfl rfl (by kernel_rfl) (by kernel_rfl)
        exact wpv_of (wp_move _ _ rfl e11) (fun _ _ => rfl)
      · obtain rfl := Option.some.inj ho
        refine .inr (.inl ⟨5, false, _, 12, rfl, rfl, rfl, (by kernel_rfl), (by kernel_rfl), fun v w' h => h, ?_⟩)
        have e0 : a.eval (.tmp 0) = .int .i64 p := hpar 0 _ (by kernel_rfl) (by kernel_rfl)
        exact wpv_of (wp_move _ _ rfl e0) (fun _ _ => rfl)
      · obtain rfl := Option.some.inj ho
        refine .inr (.inl ⟨5, false, _, 12, rfl, rfl, rfl, (by kernel_rfl), (by kernel_rfl), fun v w' h => h, ?_⟩)
        exact wpv_of (wp_fieldB 30 _ 1 rfl 64 64 fForm1 (w.heap.size + 1) 0 (hpar 5 _ (by kernel_rfl) (by kernel_rfl))) (fun _ _ => rfl)
      · obtain rfl := Option.some.inj ho
        refine .inr (.inl ⟨5, false, _, 12, rfl, rfl, rfl, (by kernel_rfl), (by kernel_rfl), fun v w' h => h, ?_⟩)
        have e14 : a.eval (.tmp 14) = .pointer (some ⟨w.heap.size + 1, 0 + 64, none⟩) := hrd 7 _ 14 rfl rfl (by kernel_rfl) (by kernel_rfl)
        exact wpv_of (wp_load_B 27 _ rfl _ e14 _ _ _ hSx.2.1 uPoly sPoly) (fun _ _ => rfl)
      · obtain rfl := Option.some.inj ho
        refine .inr (.inl ⟨5, false, _, 12, rfl, rfl, rfl, (by kernel_rfl), (by kernel_rfl), fun v w' h => h, ?_⟩)
        have e13 : a.eval (.tmp 13) = .int .i64 p := hrd 6 _ 13 rfl rfl (by kernel_rfl) (by kernel_rfl)
        have e15 : a.eval (.tmp 15) = .agg (u8s 64 (g)) := hrd 8 _ 15 rfl rfl (by kernel_rfl) (by kernel_rfl)
        exact wpv_call 51 [.tmp 13, .tmp 15] _ rfl [.int .i64 p, .agg (u8s 64 (g))] (by simp only [List.map_cons, List.map_nil, e13, e15]) Try.call51 ((k2.out w2).mono fun _ _ ⟨h1, h2⟩ => ⟨_, h1, rfl, h2⟩)
      · obtain rfl := Option.some.inj ho
        refine .inr (.inl ⟨5, false, _, 12, rfl, rfl, rfl, (by kernel_rfl), (by kernel_rfl), fun v w' h => h, ?_⟩)
        have e16 : a.eval (.tmp 16) = .bool true := hrd 9 _ 16 rfl rfl (by kernel_rfl) (by kernel_rfl)
        exact wpv_of (wp_not _ _ true rfl e16) (fun _ _ => rfl)
      · obtain rfl := Option.some.inj ho
        refine .inl ⟨rfl, ?_⟩
        have e12 : a.eval (.tmp 12) = .bool false := hrd 5 _ 12 rfl rfl (by kernel_rfl) (by kernel_rfl)
        have e17 : a.eval (.tmp 17) = .bool false := hrd 10 _ 17 rfl rfl (by kernel_rfl) (by kernel_rfl)
        exact wpv_of (wp_pickF _ _ _ rfl e12 (.bool false) e17) (fun _ _ => rfl)
      · obtain rfl := Option.some.inj ho
        refine .inl ⟨rfl, ?_⟩
        have e18 : a.eval (.tmp 18) = .bool false := hrd 11 _ 18 rfl rfl (by kernel_rfl) (by kernel_rfl)
        exact wpv_of (wp_move _ _ rfl e18) (fun _ _ => rfl)
      · obtain rfl := Option.some.inj ho
        refine .inr (.inl ⟨12, false, _, 19, rfl, rfl, rfl, (by kernel_rfl), (by kernel_rfl), fun v w' h => h, ?_⟩)
        exact wpv_of (wp_fieldB 30 _ 0 rfl 0 64 fForm0 (w.heap.size + 1) 0 (hpar 5 _ (by kernel_rfl) (by kernel_rfl))) (fun _ _ => rfl)
      · obtain rfl := Option.some.inj ho
        refine .inr (.inl ⟨12, false, _, 19, rfl, rfl, rfl, (by kernel_rfl), (by kernel_rfl), fun v w' h => h, ?_⟩)
        have e20 : a.eval (.tmp 20) = .pointer (some ⟨w.heap.size + 1, 0 + 0, none⟩) := hrd 13 _ 20 rfl rfl (by kernel_rfl) (by kernel_rfl)
        exact wpv_of (wp_load_A 27 _ rfl _ e20 _ _ _ hSx.2.1 uPoly sPoly) (fun _ _ => rfl)
      · obtain rfl := Option.some.inj ho
        refine .inr (.inl ⟨12, false, _, 19, rfl, rfl, rfl, (by kernel_rfl), (by kernel_rfl), fun v w' h => h, ?_⟩)
        have e21 : a.eval (.tmp 21) = .agg (u8s 64 (f)) := hrd 14 _ 21 rfl rfl (by kernel_rfl) (by kernel_rfl)
        exact wpv_call 39 [.tmp 21] _ rfl [.agg (u8s 64 (f))] (by simp only [List.map_cons, List.map_nil, e21]) Try.call39 ((k3.out w2).mono fun _ _ ⟨h1, h2⟩ => ⟨_, h1, rfl, h2⟩)
      · obtain rfl := Option.some.inj ho
        refine .inr (.inl ⟨12, false, _, 19, rfl, rfl, rfl, (by kernel_rfl), (by kernel_rfl), fun v w' h => h, ?_⟩)
        have e22 : a.eval (.tmp 22) = .bool true := hrd 15 _ 22 rfl rfl (by kernel_rfl) (by kernel_rfl)
        exact wpv_of (wp_not _ _ true rfl e22) (fun _ _ => rfl)
      · obtain rfl := Option.some.inj ho
        refine .inl ⟨rfl, ?_⟩
        have e19 : a.eval (.tmp 19) = .bool false := hrd 12 _ 19 rfl rfl (by kernel_rfl) (by kernel_rfl)
        have e23 : a.eval (.tmp 23) = .bool false := hrd 16 _ 23 rfl rfl (by kernel_rfl) (by kernel_rfl)
        exact wpv_of (wp_pickF _ _ _ rfl e19 (.bool false) e23) (fun _ _ => rfl)
      · obtain rfl := Option.some.inj ho
        refine .inl ⟨rfl, ?_⟩
        have e24 : a.eval (.tmp 24) = .bool false := hrd 17 _ 24 rfl rfl (by kernel_rfl) (by kernel_rfl)
        exact wpv_of (wp_move _ _ rfl e24) (fun _ _ => rfl)
      · obtain rfl := Option.some.inj ho
        refine .inr (.inl ⟨18, false, _, 25, rfl, rfl, rfl, (by kernel_rfl), (by kernel_rfl), fun v w' h => h, ?_⟩)
        exact wpv_of (wp_fieldB 30 _ 0 rfl 0 64 fForm0 (w.heap.size + 1) 0 (hpar 5 _ (by kernel_rfl) (by kernel_rfl))) (fun _ _ => rfl)
      · obtain rfl := Option.some.inj ho
        refine .inr (.inl ⟨18, false, _, 25, rfl, rfl, rfl, (by kernel_rfl), (by kernel_rfl), fun v w' h => h, ?_⟩)
        have e26 : a.eval (.tmp 26) = .pointer (some ⟨w.heap.size + 1, 0 + 0, none⟩) := hrd 19 _ 26 rfl rfl (by kernel_rfl) (by kernel_rfl)
        exact wpv_of (wp_load_A 27 _ rfl _ e26 _ _ _ hSx.2.1 uPoly sPoly) (fun _ _ => rfl)
      · obtain rfl := Option.some.inj ho
        refine .inr (.inl ⟨18, false, _, 25, rfl, rfl, rfl, (by kernel_rfl), (by kernel_rfl), fun v w' h => h, ?_⟩)
        have e27 : a.eval (.tmp 27) = .agg (u8s 64 (f)) := hrd 20 _ 27 rfl rfl (by kernel_rfl) (by kernel_rfl)
        exact wpv_call 27 [.tmp 27] _ rfl [.agg (u8s 64 (f))] (by simp only [List.map_cons, List.map_nil, e27]) Try.call27 ((hdf.out w2).mono fun _ _ ⟨h1, h2⟩ => ⟨_, h1, rfl, h2⟩)
      · obtain rfl := Option.some.inj ho
        refine .inr (.inl ⟨18, false, _, 25, rfl, rfl, rfl, (by kernel_rfl), (by kernel_rfl), fun v w' h => h, ?_⟩)
        have e28 : a.eval (.tmp 28) = .int .i64 ((La : Int) - 1) := hrd 21 _ 28 rfl rfl (by kernel_rfl) (by kernel_rfl)
        exact wpv_of (wp_cmp .gtr _ _ _ _ rfl rfl .i64 _ _ e28 rfl _ q4) (fun _ _ => rfl)
      · obtain rfl := Option.some.inj ho
        refine .inl ⟨rfl, ?_⟩
        have e25 : a.eval (.tmp 25) = .bool false := hrd 18 _ 25 rfl rfl (by kernel_rfl) (by kernel_rfl)
        have e29 : a.eval (.tmp 29) = .bool false := hrd 22 _ 29 rfl rfl (by kernel_rfl) (by kernel_rfl)
        exact wpv_of (wp_pickF _ _ _ rfl e25 (.bool false) e29) (fun _ _ => rfl)
      · obtain rfl := Option.some.inj ho
        refine .inl ⟨rfl, ?_⟩
        have e30 : a.eval (.tmp 30) = .bool false := hrd 23 _ 30 rfl rfl (by kernel_rfl) (by kernel_rfl)
        exact wpv_of (wp_move _ _ rfl e30) (fun _ _ => rfl)
      · obtain rfl := Option.some.inj ho
        refine .inr (.inl ⟨24, false, _, 31, rfl, rfl, rfl, (by kernel_rfl), (by kernel_rfl), fun v w' h => h, ?_⟩)
        exact wpv_of (wp_fieldB 30 _ 1 rfl 64 64 fForm1 (w.heap.size + 1) 0 (hpar 5 _ (by kernel_rfl) (by kernel_rfl))) (fun _ _ => rfl)
      · obtain rfl := Option.some.inj ho
        refine .inr (.inl ⟨24, false, _, 31, rfl, rfl, rfl, (by kernel_rfl), (by kernel_rfl), fun v w' h => h, ?_⟩)
        have e32 : a.eval (.tmp 32) = .pointer (some ⟨w.heap.size + 1, 0 + 64, none⟩) := hrd 25 _ 32 rfl rfl (by kernel_rfl) (by kernel_rfl)
        exact wpv_of (wp_load_B 27 _ rfl _ e32 _ _ _ hSx.2.1 uPoly sPoly) (fun _ _ => rfl)
      · obtain rfl := Option.some.inj ho
        refine .inr (.inl ⟨24, false, _, 31, rfl, rfl, rfl, (by kernel_rfl), (by kernel_rfl), fun v w' h => h, ?_⟩)
        have e33 : a.eval (.tmp 33) = .agg (u8s 64 (g)) := hrd 26 _ 33 rfl rfl (by kernel_rfl) (by kernel_rfl)
        exact wpv_call 27 [.tmp 33] _ rfl [.agg (u8s 64 (g))] (by simp only [List.map_cons, List.map_nil, e33]) Try.call27 ((hdgg.out w2).mono fun _ _ ⟨h1, h2⟩ => ⟨_, h1, rfl, h2⟩)
      · obtain rfl := Option.some.inj ho
        refine .inr (.inl ⟨24, false, _, 31, rfl, rfl, rfl, (by kernel_rfl), (by kernel_rfl), fun v w' h => h, ?_⟩)
        exact wpv_of (wp_fieldB 30 _ 0 rfl 0 64 fForm0 (w.heap.size + 1) 0 (hpar 5 _ (by kernel_rfl) (by kernel_rfl))) (fun _ _ => rfl)
      · obtain rfl := Option.some.inj ho
        refine .inr (.inl ⟨24, false, _, 31, rfl, rfl, rfl, (by kernel_rfl), (by kernel_rfl), fun v w' h => h, ?_⟩)
        have e35 : a.eval (.tmp 35) = .pointer (some ⟨w.heap.size + 1, 0 + 0, none⟩) := hrd 28 _ 35 rfl rfl (by kernel_rfl) (by kernel_rfl)
        exact wpv_of (wp_load_A 27 _ rfl _ e35 _ _ _ hSx.2.1 uPoly sPoly) (fun _ _ => rfl)
      · obtain rfl := Option.some.inj ho
        refine .inr (.inl ⟨24, false, _, 31, rfl, rfl, rfl, (by kernel_rfl), (by kernel_rfl), fun v w' h => h, ?_⟩)
        have e36 : a.eval (.tmp 36) = .agg (u8s 64 (f)) := hrd 29 _ 36 rfl rfl (by kernel_rfl) (by kernel_rfl)
        exact wpv_call 27 [.tmp 36] _ rfl [.agg (u8s 64 (f))] (by simp only [List.map_cons, List.map_nil, e36]) Try.call27 ((hdf.out w2).mono fun _ _ ⟨h1, h2⟩ => ⟨_, h1, rfl, h2⟩)
      · obtain rfl := Option.some.inj ho
        refine .inr (.inl ⟨24, false, _, 31, rfl, rfl, rfl, (by kernel_rfl), (by kernel_rfl), fun v w' h => h, ?_⟩)
        have e34 : a.eval (.tmp 34) = .int .i64 ((Lb : Int) - 1) := hrd 27 _ 34 rfl rfl (by kernel_rfl) (by kernel_rfl)
        have e37 : a.eval (.tmp 37) = .int .i64 ((La : Int) - 1) := hrd 30 _ 37 rfl rfl (by kernel_rfl) (by kernel_rfl)
        exact wpv_of (wp_cmp .geq _ _ _ _ rfl rfl .i64 _ _ e34 e37 _ q5) (fun _ _ => rfl)
      · obtain rfl := Option.some.inj ho
        refine .inl ⟨rfl, ?_⟩
        have e31 : a.eval (.tmp 31) = .bool false := hrd 24 _ 31 rfl rfl (by kernel_rfl) (by kernel_rfl)
        have e38 : a.eval (.tmp 38) = .bool true := hrd 31 _ 38 rfl rfl (by kernel_rfl) (by kernel_rfl)
        exact wpv_of (wp_pickF _ _ _ rfl e31 (.bool true) e38) (fun _ _ => rfl)
      · simp at ho
    intro vals xE hBx hSx hc0
    have e0 : vals 0 = .int .i64 p := hc0 0 (by simp)
    have e1 : vals 1 = .pointer (some ⟨w.heap.size + 1, 0 + 0, none⟩) := hc0 1 (by simp)
    have e2 : vals 2 = .agg (u8s 64 (f)) := hc0 2 (by simp)
    have e3 : vals 3 = .bool true := hc0 3 (by simp)
    have e4 : vals 4 = .bool false := hc0 4 (by simp)
    have e5 : vals 5 = .bool false := hc0 5 (by simp)
    have e6 : vals 6 = .int .i64 p := hc0 6 (by simp)
    have e7 : vals 7 = .pointer (some ⟨w.heap.size + 1, 0 + 64, none⟩) := hc0 7 (by simp)
    have e8 : vals 8 = .agg (u8s 64 (g)) := hc0 8 (by simp)
    have e9 : vals 9 = .bool true := hc0 9 (by simp)
    have e10 : vals 10 = .bool false := hc0 10 (by simp)
    have e11 : vals 11 = .bool false := hc0 11 (by simp)
    have e12 : vals 12 = .bool false := hc0 12 (by simp)
    have e13 : vals 13 = .pointer (some ⟨w.heap.size + 1, 0 + 0, none⟩) := hc0 13 (by simp)
    have e14 : vals 14 = .agg (u8s 64 (f)) := hc0 14 (by simp)
    have e15 : vals 15 = .bool true := hc0 15 (by simp)
    have e16 : vals 16 = .bool false := hc0 16 (by simp)
    have e17 : vals 17 = .bool false := hc0 17 (by simp)
    have e18 : vals 18 = .bool false := hc0 18 (by simp)
    have e19 : vals 19 = .pointer (some ⟨w.heap.size + 1, 0 + 0, none⟩) := hc0 19 (by simp)
    have e20 : vals 20 = .agg (u8s 64 (f)) := hc0 20 (by simp)
    have e21 : vals 21 = .int .i64 ((La : Int) - 1) := hc0 21 (by simp)
    have e22 : vals 22 = .bool false := hc0 22 (by simp)
    have e23 : vals 23 = .bool false := hc0 23 (by simp)
    have e24 : vals 24 = .bool false := hc0 24 (by simp)
    have e25 : vals 25 = .pointer (some ⟨w.heap.size + 1, 0 + 64, none⟩) := hc0 25 (by simp)
    have e26 : vals 26 = .agg (u8s 64 (g)) := hc0 26 (by simp)
    have e27 : vals 27 = .int .i64 ((Lb : Int) - 1) := hc0 27 (by simp)
    have e28 : vals 28 = .pointer (some ⟨w.heap.size + 1, 0 + 0, none⟩) := hc0 28 (by simp)
    have e29 : vals 29 = .agg (u8s 64 (f)) := hc0 29 (by simp)
    have e30 : vals 30 = .int .i64 ((La : Int) - 1) := hc0 30 (by simp)
    have e31 : vals 31 = .bool true := hc0 31 (by simp)
    have e32 : vals 32 = .bool true := hc0 32 (by simp)
    simp only [List.length_cons, List.length_nil, Nat.zero_add, Nat.reduceAdd, List.replicate, putAll, if_true, Act.put, List.setIfInBounds_toArray, List.set_cons_zero, List.set_cons_succ, e0, e1, e2, e3, e4, e5, e6, e7, e8, e9, e10, e11, e12, e13, e14, e15, e16, e17, e18, e19, e20, e21, e22, e23, e24, e25, e26, e27, e28, e29, e30, e31, e32]
    replace hA := hSx.1
    replace hB := hSx.2.1
    replace hb := below_step hb hBx
    clear hc0 hSx e0 e1 e2 e3 e4 e5 e6 e7 e8 e9 e10 e11 e12 e13 e14 e15 e16 e17 e18 e19 e20 e21 e22 e23 e24 e25 e26 e27 e28 e29 e30 e31 e32
    go_wp2_with fail
    go_ret
    exact ⟨rfl, hb⟩
  have hla : La ≤ 13 := by have := of_decide_eq_false q4; omega
  have hlb : Lb < La := by have := of_decide_eq_false q5; omega
  have hfo9 := of_decide_eq_true h1H.out
  have hgo9 := of_decide_eq_true h2H.out
  have hfo : OkP p f := hfo9
  have hgo : OkP p g := hgo9
  clear hfo9 hgo9
  have hm3 := of_decide_eq_true h3H.out
  have hx := hfo.p64 hfH.out
  have hy := hgo.p64 hgH.out
  have hne : mkp 64 f ≠ [] := fun e => by have := hLaH.out; rw [e] at this; simp at this; omega
  have hsl : (mulp p (mkp 64 g) (mkp 64 g)).length ≤ 64 := sq_len (by have := hLbH.out; omega)
  have hsqP : P64 p (sqd p ds (mkp 64 g)) := P64.addp ⟨hx.pr, mulp_Po (by have := hx.pr.pos; omega) _ _, hsl⟩ hdH.out (-1)
  have r1 := fun w => l07Square_any p ds (mkp 64 g) w hdH.out hy hsl
  have r2 := fun w => l01Mod_any (sqd p ds (mkp 64 g)) (mkp 64 f) p w hsqP hx hne
  rw [← u8s_mkp] at r1 r2
  have hfin : (rst p (sqd p ds (mkp 64 g)) (mkp 64 f)).length = 0 ↔ b = true := by
    rw [← hbH.out, List.length_eq_zero_iff]
    exact ⟨fun h => ⟨hfo, hgo, hm3, by rw [hLaH.out]; exact hla, by rw [hLaH.out, hLbH.out]; exact hlb, h⟩, fun h => h.2.2.2.2.2⟩
  have hrP := rst_P64 hsqP hx hne
  obtain ⟨R, hR⟩ : ∃ R, rst p (sqd p ds (mkp 64 g)) (mkp 64 f) = R := ⟨_, rfl⟩
  rw [hR] at r2 hfin hrP
  obtain ⟨S, hS⟩ : ∃ S, sqd p ds (mkp 64 g) = S := ⟨_, rfl⟩
  rw [hS] at r1 r2
  have r3 := fun w => l01Deg_list p R w hrP
  obtain ⟨q6, hq6⟩ : ∃ t, cmpB .lss ((R.length : Int) - 1) 0 = t := ⟨_, rfl⟩
  have hqb : q6 = b := by
    have : q6 = decide ((R.length : Int) - 1 < 0) := hq6.symm
    rw [this]
    cases b
    · exact decide_eq_false fun h => absurd (hfin.1 (by omega)) (by simp)
    · exact decide_eq_true (by have := hfin.2 rfl; omega)
  subst hqb
  have r1H := Lib.hid r1
  have r2H := Lib.hid r2
  have r3H := Lib.hid r3
  clear hla hlb hfo hgo hm3 hx hy hne hsl hsqP r1 r2 r3 hfin hrP hR hS
  go_upto_region 1 with (fail)
  refine gen_guard (w := _) (by kernel_rfl) (by kernel_rfl) (by kernel_rfl)
      (fun i => ([fun zv _ => zv = .int .i64 p, fun zv _ => zv = .pointer (some ⟨w.heap.size + 1, 0 + 0, none⟩), fun zv _ => zv = .agg (u8s 64 (f)), fun zv _ => zv = .bool true, fun zv _ => zv = .bool false, fun zv _ => zv = .bool false, fun zv _ => zv = .int .i64 p, fun zv _ => zv = .pointer (some ⟨w.heap.size + 1, 0 + 64, none⟩), fun zv _ => zv = .agg (u8s 64 (g)), fun zv _ => zv = .bool true, fun zv _ => zv = .bool false, fun zv _ => zv = .bool false, fun zv _ => zv = .bool false, fun zv _ => zv = .pointer (some ⟨w.heap.size + 1, 0 + 0, none⟩), fun zv _ => zv = .agg (u8s 64 (f)), fun zv _ => zv = .bool true, fun zv _ => zv = .bool false, fun zv _ => zv = .bool false, fun zv _ => zv = .bool false, fun zv _ => zv = .pointer (some ⟨w.heap.size + 1, 0 + 0, none⟩), fun zv _ => zv = .agg (u8s 64 (f)), fun zv _ => zv = .int .i64 ((La : Int) - 1), fun zv _ => zv = .bool false, fun zv _ => zv = .bool false, fun zv _ => zv = .bool false, fun zv _ => zv = .pointer (some ⟨w.heap.size + 1, 0 + 64, none⟩), fun zv _ => zv = .agg (u8s 64 (g)), fun zv _ => zv = .int .i64 ((Lb : Int) - 1), fun zv _ => zv = .pointer (some ⟨w.heap.size + 1, 0 + 0, none⟩), fun zv _ => zv = .agg (u8s 64 (f)), fun zv _ => zv = .int .i64 ((La : Int) - 1), fun zv _ => zv = .bool false, fun zv _ => zv = .bool false] : List (Value → World → Prop)).getD i (fun _ _ => True))
      (fun w' => Blk w' (w.heap.size) (u8s 64 (cf ds)) 27 ∧ Blk w' (w.heap.size + 1) (u8s 128 (fmF f g)) 30 ∧ True) ⟨hA.drew, hB.drew, trivial⟩ (fun w1 w2 h hb => ⟨h.1.keep hb, h.2.1.keep hb, trivial⟩) ?_ ?_ ?_
  · intro i v w1 w2 h hb
    rcases i with _|_|_|_|_|_|_|_|_|_|_|_|_|_|_|_|_|_|_|_|_|_|_|_|_|_|_|_|_|_|_|_|_|i
    · exact h
    · exact h
    · exact h
    · exact h
    · exact h
    · exact h
    · exact h
    · exact h
    · exact h
    · exact h
    · exact h
    · exact h
    · exact h
    · exact h
    · exact h
    · exact h
    · exact h
    · exact h
    · exact h
    · exact h
    · exact h
    · exact h
    · exact h
    · exact h
    · exact h
    · exact h
    · exact h
    · exact h
    · exact h
    · exact h
    · exact h
    · exact h
    · exact h
    · exact h
  · intro i o ho a w2 hBl hSx hrd hpar
    rcases i with _|_|_|_|_|_|_|_|_|_|_|_|_|_|_|_|_|_|_|_|_|_|_|_|_|_|_|_|_|_|_|_|_|i
    · obtain rfl := Option.some.inj ho
      refine .inl ⟨rfl, ?_⟩
      have e0 : a.eval (.tmp 0) = .int .i64 p := hpar 0 _ (by kernel_rfl) (by kernel_rfl)
      exact wpv_of (wp_move _ _ rfl e0) (fun _ _ => rfl)
    · obtain rfl := Option.some.inj ho
      refine .inl ⟨rfl, ?_⟩
      exact wpv_of (wp_fieldB 30 _ 0 rfl 0 64 fForm0 (w.heap.size + 1) 0 (hpar 5 _ (by kernel_rfl) (by kernel_rfl))) (fun _ _ => rfl)
    · obtain rfl := Option.some.inj ho
      refine .inl ⟨rfl, ?_⟩
      have e8 : a.eval (.tmp 8) = .pointer (some ⟨w.heap.size + 1, 0 + 0, none⟩) := hrd 1 _ 8 rfl rfl (by kernel_rfl) (by kernel_rfl)
      exact wpv_of (wp_load_A 27 _ rfl _ e8 _ _ _ hSx.2.1 uPoly sPoly) (fun _ _ => rfl)
    · obtain rfl := Option.some.inj ho
      refine .inl ⟨rfl, ?_⟩
      have e7 : a.eval (.tmp 7) = .int .i64 p := hrd 0 _ 7 rfl rfl (by kernel_rfl) (by kernel_rfl)
      have e9 : a.eval (.tmp 9) = .agg (u8s 64 (f)) := hrd 2 _ 9 rfl rfl (by kernel_rfl) (by kernel_rfl)
      exact wpv_call 51 [.tmp 7, .tmp 9] _ rfl [.int .i64 p, .agg (u8s 64 (f))] (by simp only [List.map_cons, List.map_nil, e7, e9]) Try.call51 ((k1.out w2).mono fun _ _ ⟨h1, h2⟩ => ⟨_, h1, rfl, h2⟩)
    · obtain rfl := Option.some.inj ho
      refine .inl ⟨rfl, ?_⟩
      have e10 : a.eval (.tmp 10) = .bool true := hrd 3 _ 10 rfl rfl (by kernel_rfl) (by kernel_rfl)
      exact wpv_of (wp_not _ _ true rfl e10) (fun _ _ => rfl)
    · obtain rfl := Option.some.inj ho
      refine .inl ⟨rfl, ?_⟩
      have e11 : a.eval (.tmp 11) = .bool false := hrd 4 _ 11 rfl rfl (by kernel_rfl) (by kernel_rfl)
      exact wpv_of (wp_move _ _ rfl e11) (fun _ _ => rfl)
    · obtain rfl := Option.some.inj ho
      refine .inr (.inl ⟨5, false, _, 12, rfl, rfl, rfl, (by kernel_rfl), (by kernel_rfl), fun v w' h => h, ?_⟩)
      have e0 : a.eval (.tmp 0) = .int .i64 p := hpar 0 _ (by kernel_rfl) (by kernel_rfl)
      exact wpv_of (wp_move _ _ rfl e0) (fun _ _ => rfl)
    · obtain rfl := Option.some.inj ho
      refine .inr (.inl ⟨5, false, _, 12, rfl, rfl, rfl, (by kernel_rfl), (by kernel_rfl), fun v w' h => h, ?_⟩)
      exact wpv_of (wp_fieldB 30 _ 1 rfl 64 64 fForm1 (w.heap.size + 1) 0 (hpar 5 _ (by kernel_rfl) (by kernel_rfl))) (fun _ _ => rfl)
    · obtain rfl := Option.some.inj ho
      refine .inr (.inl ⟨5, false, _, 12, rfl, rfl, rfl, (by kernel_rfl), (by kernel_rfl), fun v w' h => h, ?_⟩)
      have e14 : a.eval (.tmp 14) = .pointer (some ⟨w.heap.size + 1, 0 + 64, none⟩) := hrd 7 _ 14 rfl rfl (by kernel_rfl) (by kernel_rfl)
      exact wpv_of (wp_load_B 27 _ rfl _ e14 _ _ _ hSx.2.1 uPoly sPoly) (fun _ _ => rfl)
    · obtain rfl := Option.some.inj ho
      refine .inr (.inl ⟨5, false, _, 12, rfl, rfl, rfl, (by kernel_rfl), (by kernel_rfl), fun v w' h => h, ?_⟩)
      have e13 : a.eval (.tmp 13) = .int .i64 p := hrd 6 _ 13 rfl rfl (by kernel_rfl) (by kernel_rfl)
      have e15 : a.eval (.tmp 15) = .agg (u8s 64 (g)) := hrd 8 _ 15 rfl rfl (by kernel_rfl) (by kernel_rfl)
      exact wpv_call 51 [.tmp 13, .tmp 15] _ rfl [.int .i64 p, .agg (u8s 64 (g))] (by simp only [List.map_cons, List.map_nil, e13, e15]) Try.call51 ((k2.out w2).mono fun _ _ ⟨h1, h2⟩ => ⟨_, h1, rfl, h2⟩)
    · obtain rfl := Option.some.inj ho
      refine .inr (.inl ⟨5, false, _, 12, rfl, rfl, rfl, (by kernel_rfl), (by kernel_rfl), fun v w' h => h, ?_⟩)
      have e16 : a.eval (.tmp 16) = .bool true := hrd 9 _ 16 rfl rfl (by kernel_rfl) (by kernel_rfl)
      exact wpv_of (wp_not _ _ true rfl e16) (fun _ _ => rfl)
    · obtain rfl := Option.some.inj ho
      refine .inl ⟨rfl, ?_⟩
      have e12 : a.eval (.tmp 12) = .bool false := hrd 5 _ 12 rfl rfl (by kernel_rfl) (by kernel_rfl)
      have e17 : a.eval (.tmp 17) = .bool false := hrd 10 _ 17 rfl rfl (by kernel_rfl) (by kernel_rfl)
      exact wpv_of (wp_pickF _ _ _ rfl e12 (.bool false) e17) (fun _ _ => rfl)
    · obtain rfl := Option.some.inj ho
      refine .inl ⟨rfl, ?_⟩
      have e18 : a.eval (.tmp 18) = .bool false := hrd 11 _ 18 rfl rfl (by kernel_rfl) (by kernel_rfl)
      exact wpv_of (wp_move _ _ rfl e18) (fun _ _ => rfl)
    · obtain rfl := Option.some.inj ho
      refine .inr (.inl ⟨12, false, _, 19, rfl, rfl, rfl, (by kernel_rfl), (by kernel_rfl), fun v w' h => h, ?_⟩)
      exact wpv_of (wp_fieldB 30 _ 0 rfl 0 64 fForm0 (w.heap.size + 1) 0 (hpar 5 _ (by kernel_rfl) (by kernel_rfl))) (fun _ _ => rfl)
    · obtain rfl := Option.some.inj ho
      refine .inr (.inl ⟨12, false, _, 19, rfl, rfl, rfl, (by kernel_rfl), (by kernel_rfl), fun v w' h => h, ?_⟩)
      have e20 : a.eval (.tmp 20) = .pointer (some ⟨w.heap.size + 1, 0 + 0, none⟩) := hrd 13 _ 20 rfl rfl (by kernel_rfl) (by kernel_rfl)
      exact wpv_of (wp_load_A 27 _ rfl _ e20 _ _ _ hSx.2.1 uPoly sPoly) (fun _ _ => rfl)
    · obtain rfl := Option.some.inj ho
      refine .inr (.inl ⟨12, false, _, 19, rfl, rfl, rfl, (by kernel_rfl), (by kernel_rfl), fun v w' h => h, ?_⟩)
      have e21 : a.eval (.tmp 21) = .agg (u8s 64 (f)) := hrd 14 _ 21 rfl rfl (by kernel_rfl) (by kernel_rfl)
      exact wpv_call 39 [.tmp 21] _ rfl [.agg (u8s 64 (f))] (by simp only [List.map_cons, List.map_nil, e21]) Try.call39 ((k3.out w2).mono fun _ _ ⟨h1, h2⟩ => ⟨_, h1, rfl, h2⟩)
    · obtain rfl := Option.some.inj ho
      refine .inr (.inl ⟨12, false, _, 19, rfl, rfl, rfl, (by kernel_rfl), (by kernel_rfl), fun v w' h => h, ?_⟩)
      have e22 : a.eval (.tmp 22) = .bool true := hrd 15 _ 22 rfl rfl (by kernel_rfl) (by kernel_rfl)
      exact wpv_of (wp_not _ _ true rfl e22) (fun _ _ => rfl)
    · obtain rfl := Option.some.inj ho
      refine .inl ⟨rfl, ?_⟩
      have e19 : a.eval (.tmp 19) = .bool false := hrd 12 _ 19 rfl rfl (by kernel_rfl) (by kernel_rfl)
      have e23 : a.eval (.tmp 23) = .bool false := hrd 16 _ 23 rfl rfl (by kernel_rfl) (by kernel_rfl)
      exact wpv_of (wp_pickF _ _ _ rfl e19 (.bool false) e23) (fun _ _ => rfl)
    · obtain rfl := Option.some.inj ho
      refine .inl ⟨rfl, ?_⟩
      have e24 : a.eval (.tmp 24) = .bool false := hrd 17 _ 24 rfl rfl (by kernel_rfl) (by kernel_rfl)
      exact wpv_of (wp_move _ _ rfl e24) (fun _ _ => rfl)
    · obtain rfl := Option.some.inj ho
      refine .inr (.inl ⟨18, false, _, 25, rfl, rfl, rfl, (by kernel_rfl), (by kernel_rfl), fun v w' h => h, ?_⟩)
      exact wpv_of (wp_fieldB 30 _ 0 rfl 0 64 fForm0 (w.heap.size + 1) 0 (hpar 5 _ (by kernel_rfl) (by kernel_rfl))) (fun _ _ => rfl)
    · obtain rfl := Option.some.inj ho
      refine .inr (.inl ⟨18, false, _, 25, rfl, rfl, rfl, (by kernel_rfl), (by kernel_rfl), fun v w' h => h, ?_⟩)
      have e26 : a.eval (.tmp 26) = .pointer (some ⟨w.heap.size + 1, 0 + 0, none⟩) := hrd 19 _ 26 rfl rfl (by kernel_rfl) (by kernel_rfl)
      exact wpv_of (wp_load_A 27 _ rfl _ e26 _ _ _ hSx.2.1 uPoly sPoly) (fun _ _ => rfl)
    · obtain rfl := Option.some.inj ho
      refine .inr (.inl ⟨18, false, _, 25, rfl, rfl, rfl, (by kernel_rfl), (by kernel_rfl), fun v w' h => h, ?_⟩)
      have e27 : a.eval (.tmp 27) = .agg (u8s 64 (f)) := hrd 20 _ 27 rfl rfl (by kernel_rfl) (by kernel_rfl)
      exact wpv_call 27 [.tmp 27] _ rfl [.agg (u8s 64 (f))] (by simp only [List.map_cons, List.map_nil, e27]) Try.call27 ((hdf.out w2).mono fun _ _ ⟨h1, h2⟩ => ⟨_, h1, rfl, h2⟩)
    · obtain rfl := Option.some.inj ho
      refine .inr (.inl ⟨18, false, _, 25, rfl, rfl, rfl, (by kernel_rfl), (by kernel_rfl), fun v w' h => h, ?_⟩)
      have e28 : a.eval (.tmp 28) = .int .i64 ((La : Int) - 1) := hrd 21 _ 28 rfl rfl (by kernel_rfl) (by kernel_rfl)
      exact wpv_of (wp_cmp .gtr _ _ _ _ rfl rfl .i64 _ _ e28 rfl _ q4) (fun _ _ => rfl)
    · obtain rfl := Option.some.inj ho
      refine .inl ⟨rfl, ?_⟩
      have e25 : a.eval (.tmp 25) = .bool false := hrd 18 _ 25 rfl rfl (by kernel_rfl) (by kernel_rfl)
      have e29 : a.eval (.tmp 29) = .bool false := hrd 22 _ 29 rfl rfl (by kernel_rfl) (by kernel_rfl)
      exact wpv_of (wp_pickF _ _ _ rfl e25 (.bool false) e29) (fun _ _ => rfl)
    · obtain rfl := Option.some.inj ho
      refine .inl ⟨rfl, ?_⟩
      have e30 : a.eval (.tmp 30) = .bool false := hrd 23 _ 30 rfl rfl (by kernel_rfl) (by kernel_rfl)
      exact wpv_of (wp_move _ _ rfl e30) (fun _ _ => rfl)
    · obtain rfl := Option.some.inj ho
      refine .inr (.inl ⟨24, false, _, 31, rfl, rfl, rfl, (by kernel_rfl), (by kernel_rfl), fun v w' h => h, ?_⟩)
      exact wpv_of (wp_fieldB 30 _ 1 rfl 64 64 fForm1 (w.heap.size + 1) 0 (hpar 5 _ (by kernel_rfl) (by kernel_rfl))) (fun _ _ => rfl)
    · obtain rfl := Option.some.inj ho
      refine .inr (.inl ⟨24, false, _, 31, rfl, rfl, rfl, (by kernel_rfl), (by kernel_rfl), fun v w' h => h, ?_⟩)
      have e32 : a.eval (.tmp 32) = .pointer (some ⟨w.heap.size + 1, 0 + 64, none⟩) := hrd 25 _ 32 rfl rfl (by kernel_rfl) (by kernel_rfl)
      exact wpv_of (wp_load_B 27 _ rfl _ e32 _ _ _ hSx.2.1 uPoly sPoly) (fun _ _ => rfl)
    · obtain rfl := Option.some.inj ho
      refine .inr (.inl ⟨24, false, _, 31, rfl, rfl, rfl, (by kernel_rfl), (by kernel_rfl), fun v w' h => h, ?_⟩)
      have e33 : a.eval (.tmp 33) = .agg (u8s 64 (g)) := hrd 26 _ 33 rfl rfl (by kernel_rfl) (by kernel_rfl)
      exact wpv_call 27 [.tmp 33] _ rfl [.agg (u8s 64 (g))] (by simp only [List.map_cons, List.map_nil, e33]) Try.call27 ((hdgg.out w2).mono fun _ _ ⟨h1, h2⟩ => ⟨_, h1, rfl, h2⟩)
    · obtain rfl := Option.some.inj ho
      refine .inr (.inl ⟨24, false, _, 31, rfl, rfl, rfl, (by kernel_rfl), (by kernel_rfl), fun v w' h => h, ?_⟩)
      exact wpv_of (wp_fieldB 30 _ 0 rfl 0 64 fForm0 (w.heap.size + 1) 0 (hpar 5 _ (by kernel_rfl) (by kernel_rfl))) (fun _ _ => rfl)
    · obtain rfl := Option.some.inj ho
      refine .inr (.inl ⟨24, false, _, 31, rfl, rfl, rfl, (by kernel_rfl), (by kernel_rfl), fun v w' h => h, ?_⟩)
      have e35 : a.eval (.tmp 35) = .pointer (some ⟨w.heap.size + 1, 0 + 0, none⟩) := hrd 28 _ 35 rfl rfl (by kernel_rfl) (by kernel_rfl)
      exact wpv_of (wp_load_A 27 _ rfl _ e35 _ _ _ hSx.2.1 uPoly sPoly) (fun _ _ => rfl)
    · obtain rfl := Option.some.inj ho
      refine .inr (.inl ⟨24, false, _, 31, rfl, rfl, rfl, (by kernel_rfl), (by kernel_rfl), fun v w' h => h, ?_⟩)
      have e36 : a.eval (.tmp 36) = .agg (u8s 64 (f)) := hrd 29 _ 36 rfl rfl (by kernel_rfl) (by kernel_rfl)
      exact wpv_call 27 [.tmp 36] _ rfl [.agg (u8s 64 (f))] (by simp only [List.map_cons, List.map_nil, e36]) Try.call27 ((hdf.out w2).mono fun _ _ ⟨h1, h2⟩ => ⟨_, h1, rfl, h2⟩)
    · obtain rfl := Option.some.inj ho
      refine .inr (.inl ⟨24, false, _, 31, rfl, rfl, rfl, (by kernel_rfl), (by kernel_rfl), fun v w' h => h, ?_⟩)
      have e34 : a.eval (.tmp 34) = .int .i64 ((Lb : Int) - 1) := hrd 27 _ 34 rfl rfl (by kernel_rfl) (by kernel_rfl)
      have e37 : a.eval (.tmp 37) = .int .i64 ((La : Int) - 1) := hrd 30 _ 37 rfl rfl (by kernel_rfl) (by kernel_rfl)
      exact wpv_of (wp_cmp .geq _ _ _ _ rfl rfl .i64 _ _ e34 e37 _ q5) (fun _ _ => rfl)
    · obtain rfl := Option.some.inj ho
      refine .inl ⟨rfl, ?_⟩
      have e31 : a.eval (.tmp 31) = .bool false := hrd 24 _ 31 rfl rfl (by kernel_rfl) (by kernel_rfl)
      have e38 : a.eval (.tmp 38) = .bool false := hrd 31 _ 38 rfl rfl (by kernel_rfl) (by kernel_rfl)
      exact wpv_of (wp_pickF _ _ _ rfl e31 (.bool false) e38) (fun _ _ => rfl)
    · simp at ho
  intro vals xE hBx hSx hc0
  have e0 : vals 0 = .int .i64 p := hc0 0 (by simp)
  have e1 : vals 1 = .pointer (some ⟨w.heap.size + 1, 0 + 0, none⟩) := hc0 1 (by simp)
  have e2 : vals 2 = .agg (u8s 64 (f)) := hc0 2 (by simp)
  have e3 : vals 3 = .bool true := hc0 3 (by simp)
  have e4 : vals 4 = .bool false := hc0 4 (by simp)
  have e5 : vals 5 = .bool false := hc0 5 (by simp)
  have e6 : vals 6 = .int .i64 p := hc0 6 (by simp)
  have e7 : vals 7 = .pointer (some ⟨w.heap.size + 1, 0 + 64, none⟩) := hc0 7 (by simp)
  have e8 : vals 8 = .agg (u8s 64 (g)) := hc0 8 (by simp)
  have e9 : vals 9 = .bool true := hc0 9 (by simp)
  have e10 : vals 10 = .bool false := hc0 10 (by simp)
  have e11 : vals 11 = .bool false := hc0 11 (by simp)
  have e12 : vals 12 = .bool false := hc0 12 (by simp)
  have e13 : vals 13 = .pointer (some ⟨w.heap.size + 1, 0 + 0, none⟩) := hc0 13 (by simp)
  have e14 : vals 14 = .agg (u8s 64 (f)) := hc0 14 (by simp)
  have e15 : vals 15 = .bool true := hc0 15 (by simp)
  have e16 : vals 16 = .bool false := hc0 16 (by simp)
  have e17 : vals 17 = .bool false := hc0 17 (by simp)
  have e18 : vals 18 = .bool false := hc0 18 (by simp)
  have e19 : vals 19 = .pointer (some ⟨w.heap.size + 1, 0 + 0, none⟩) := hc0 19 (by simp)
  have e20 : vals 20 = .agg (u8s 64 (f)) := hc0 20 (by simp)
  have e21 : vals 21 = .int .i64 ((La : Int) - 1) := hc0 21 (by simp)
  have e22 : vals 22 = .bool false := hc0 22 (by simp)
  have e23 : vals 23 = .bool false := hc0 23 (by simp)
  have e24 : vals 24 = .bool false := hc0 24 (by simp)
  have e25 : vals 25 = .pointer (some ⟨w.heap.size + 1, 0 + 64, none⟩) := hc0 25 (by simp)
  have e26 : vals 26 = .agg (u8s 64 (g)) := hc0 26 (by simp)
  have e27 : vals 27 = .int .i64 ((Lb : Int) - 1) := hc0 27 (by simp)
  have e28 : vals 28 = .pointer (some ⟨w.heap.size + 1, 0 + 0, none⟩) := hc0 28 (by simp)
  have e29 : vals 29 = .agg (u8s 64 (f)) := hc0 29 (by simp)
  have e30 : vals 30 = .int .i64 ((La : Int) - 1) := hc0 30 (by simp)
  have e31 : vals 31 = .bool false := hc0 31 (by simp)
  have e32 : vals 32 = .bool false := hc0 32 (by simp)
  simp only [List.length_cons, List.length_nil, Nat.zero_add, Nat.reduceAdd, List.replicate, putAll, if_true, Act.put, List.setIfInBounds_toArray, List.set_cons_zero, List.set_cons_succ, e0, e1, e2, e3, e4, e5, e6, e7, e8, e9, e10, e11, e12, e13, e14, e15, e16, e17, e18, e19, e20, e21, e22, e23, e24, e25, e26, e27, e28, e29, e30, e31, e32]
  replace hA := hSx.1
  replace hB := hSx.2.1
  replace hb := below_step hb hBx
  clear hc0 hSx e0 e1 e2 e3 e4 e5 e6 e7 e8 e9 e10 e11 e12 e13 e14 e15 e16 e17 e18 e19 e20 e21 e22 e23 e24 e25 e26 e27 e28 e29 e30 e31 e32
  go_upto_region 3 with (fail)
  refine gen_guard (w := _) (by kernel_rfl) (by kernel_rfl) (by kernel_rfl)
      (fun i => ([fun zv _ => zv = .int .i64 p, fun zv _ => zv = .int .i64 p, fun zv _ => zv = .agg (u8s 64 (cf ds)), fun zv _ => zv = .pointer (some ⟨w.heap.size + 1, 0 + 64, none⟩), fun zv _ => zv = .agg (u8s 64 (g)), fun zv _ => zv = .agg (u8s 64 (cf S)), fun zv _ => zv = .pointer (some ⟨w.heap.size + 1, 0 + 0, none⟩), fun zv _ => zv = .agg (u8s 64 (f)), fun zv _ => zv = .agg (u8s 64 (cf R)), fun zv _ => zv = .int .i64 ((R.length : Int) - 1), fun zv _ => zv = .bool q6, fun zv _ => zv = .bool q6] : List (Value → World → Prop)).getD i (fun _ _ => True))
      (fun w' => Blk w' (w.heap.size) (u8s 64 (cf ds)) 27 ∧ Blk w' (w.heap.size + 1) (u8s 128 (fmF f g)) 30 ∧ True) ⟨hA.drew, hB.drew, trivial⟩ (fun w1 w2 h hb => ⟨h.1.keep hb, h.2.1.keep hb, trivial⟩) ?_ ?_ ?_
  · intro i v w1 w2 h hb
    rcases i with _|_|_|_|_|_|_|_|_|_|_|_|i
    · exact h
    · exact h
    · exact h
    · exact h
    · exact h
    · exact h
    · exact h
    · exact h
    · exact h
    · exact h
    · exact h
    · exact h
    · exact h
  · intro i o ho a w2 hBl hSx hrd hpar
    rcases i with _|_|_|_|_|_|_|_|_|_|_|_|i
    · obtain rfl := Option.some.inj ho
      refine .inl ⟨rfl, ?_⟩
      have e0 : a.eval (.tmp 0) = .int .i64 p := hpar 0 _ (by kernel_rfl) (by kernel_rfl)
      exact wpv_of (wp_move _ _ rfl e0) (fun _ _ => rfl)
    · obtain rfl := Option.some.inj ho
      refine .inl ⟨rfl, ?_⟩
      have e0 : a.eval (.tmp 0) = .int .i64 p := hpar 0 _ (by kernel_rfl) (by kernel_rfl)
      exact wpv_of (wp_move _ _ rfl e0) (fun _ _ => rfl)
    · obtain rfl := Option.some.inj ho
      refine .inl ⟨rfl, ?_⟩
      exact wpv_of (wp_loadB 27 _ rfl _ (hpar 4 (.pointer (some ⟨w.heap.size, 0, none⟩)) (by kernel_rfl) (by kernel_rfl)) _ _ hSx.1 _ _ uPoly sPoly) (fun _ _ => rfl)
    · obtain rfl := Option.some.inj ho
      refine .inl ⟨rfl, ?_⟩
      exact wpv_of (wp_fieldB 30 _ 1 rfl 64 64 fForm1 (w.heap.size + 1) 0 (hpar 5 _ (by kernel_rfl) (by kernel_rfl))) (fun _ _ => rfl)
    · obtain rfl := Option.some.inj ho
      refine .inl ⟨rfl, ?_⟩
      have e43 : a.eval (.tmp 43) = .pointer (some ⟨w.heap.size + 1, 0 + 64, none⟩) := hrd 3 _ 43 rfl rfl (by kernel_rfl) (by kernel_rfl)
      exact wpv_of (wp_load_B 27 _ rfl _ e43 _ _ _ hSx.2.1 uPoly sPoly) (fun _ _ => rfl)
    · obtain rfl := Option.some.inj ho
      refine .inl ⟨rfl, ?_⟩
      have e41 : a.eval (.tmp 41) = .int .i64 p := hrd 1 _ 41 rfl rfl (by kernel_rfl) (by kernel_rfl)
      have e42 : a.eval (.tmp 42) = .agg (u8s 64 (cf ds)) := hrd 2 _ 42 rfl rfl (by kernel_rfl) (by kernel_rfl)
      have e44 : a.eval (.tmp 44) = .agg (u8s 64 (g)) := hrd 4 _ 44 rfl rfl (by kernel_rfl) (by kernel_rfl)
      exact wpv_call 54 [.tmp 41, .tmp 42, .tmp 44] _ rfl [.int .i64 p, .agg (u8s 64 (cf ds)), .agg (u8s 64 (g))] (by simp only [List.map_cons, List.map_nil, e41, e42, e44]) Try.call54 ((r1H.out w2).mono fun _ _ ⟨h1, h2⟩ => ⟨_, h1, rfl, h2⟩)
    · obtain rfl := Option.some.inj ho
      refine .inl ⟨rfl, ?_⟩
      exact wpv_of (wp_fieldB 30 _ 0 rfl 0 64 fForm0 (w.heap.size + 1) 0 (hpar 5 _ (by kernel_rfl) (by kernel_rfl))) (fun _ _ => rfl)
    · obtain rfl := Option.some.inj ho
      refine .inl ⟨rfl, ?_⟩
      have e46 : a.eval (.tmp 46) = .pointer (some ⟨w.heap.size + 1, 0 + 0, none⟩) := hrd 6 _ 46 rfl rfl (by kernel_rfl) (by kernel_rfl)
      exact wpv_of (wp_load_A 27 _ rfl _ e46 _ _ _ hSx.2.1 uPoly sPoly) (fun _ _ => rfl)
    · obtain rfl := Option.some.inj ho
      refine .inl ⟨rfl, ?_⟩
      have e40 : a.eval (.tmp 40) = .int .i64 p := hrd 0 _ 40 rfl rfl (by kernel_rfl) (by kernel_rfl)
      have e45 : a.eval (.tmp 45) = .agg (u8s 64 (cf S)) := hrd 5 _ 45 rfl rfl (by kernel_rfl) (by kernel_rfl)
      have e47 : a.eval (.tmp 47) = .agg (u8s 64 (f)) := hrd 7 _ 47 rfl rfl (by kernel_rfl) (by kernel_rfl)
      exact wpv_call 53 [.tmp 40, .tmp 45, .tmp 47] _ rfl [.int .i64 p, .agg (u8s 64 (cf S)), .agg (u8s 64 (f))] (by simp only [List.map_cons, List.map_nil, e40, e45, e47]) Try.call53 ((r2H.out w2).mono fun _ _ ⟨h1, h2⟩ => ⟨_, h1, rfl, h2⟩)
    · obtain rfl := Option.some.inj ho
      refine .inl ⟨rfl, ?_⟩
      have e48 : a.eval (.tmp 48) = .agg (u8s 64 (cf R)) := hrd 8 _ 48 rfl rfl (by kernel_rfl) (by kernel_rfl)
      exact wpv_call 27 [.tmp 48] _ rfl [.agg (u8s 64 (cf R))] (by simp only [List.map_cons, List.map_nil, e48]) Try.call27 ((r3H.out w2).mono fun _ _ ⟨h1, h2⟩ => ⟨_, h1, rfl, h2⟩)
    · obtain rfl := Option.some.inj ho
      refine .inl ⟨rfl, ?_⟩
      have e49 : a.eval (.tmp 49) = .int .i64 ((R.length : Int) - 1) := hrd 9 _ 49 rfl rfl (by kernel_rfl) (by kernel_rfl)
      exact wpv_of (wp_cmp .lss _ _ _ _ rfl rfl .i64 _ _ e49 rfl _ hq6) (fun _ _ => rfl)
    · obtain rfl := Option.some.inj ho
      refine .inl ⟨rfl, ?_⟩
      have e50 : a.eval (.tmp 50) = .bool q6 := hrd 10 _ 50 rfl rfl (by kernel_rfl) (by kernel_rfl)
      exact wpv_of (wp_assign _ _ rfl e50) (fun _ _ => rfl)
    · simp at ho
  intro vals xF hBx hSx hc0
  have e0 : vals 0 = .int .i64 p := hc0 0 (by simp)
  have e1 : vals 1 = .int .i64 p := hc0 1 (by simp)
  have e2 : vals 2 = .agg (u8s 64 (cf ds)) := hc0 2 (by simp)
  have e3 : vals 3 = .pointer (some ⟨w.heap.size + 1, 0 + 64, none⟩) := hc0 3 (by simp)
  have e4 : vals 4 = .agg (u8s 64 (g)) := hc0 4 (by simp)
  have e5 : vals 5 = .agg (u8s 64 (cf S)) := hc0 5 (by simp)
  have e6 : vals 6 = .pointer (some ⟨w.heap.size + 1, 0 + 0, none⟩) := hc0 6 (by simp)
  have e7 : vals 7 = .agg (u8s 64 (f)) := hc0 7 (by simp)
  have e8 : vals 8 = .agg (u8s 64 (cf R)) := hc0 8 (by simp)
  have e9 : vals 9 = .int .i64 ((R.length : Int) - 1) := hc0 9 (by simp)
  have e10 : vals 10 = .bool q6 := hc0 10 (by simp)
  have e11 : vals 11 = .bool q6 := hc0 11 (by simp)
  simp only [List.length_cons, List.length_nil, Nat.zero_add, Nat.reduceAdd, List.replicate, putAll, if_true, Act.put, List.setIfInBounds_toArray, List.set_cons_zero, List.set_cons_succ, e0, e1, e2, e3, e4, e5, e6, e7, e8, e9, e10, e11]
  replace hA := hSx.1
  replace hB := hSx.2.1
  replace hb := below_step hb hBx
  clear hc0 hSx e0 e1 e2 e3 e4 e5 e6 e7 e8 e9 e10 e11
  go_wp2_with fail
  go_ret
  exact ⟨rfl, hb⟩
end Go.Proofs.Ytohgjihccjnheab
