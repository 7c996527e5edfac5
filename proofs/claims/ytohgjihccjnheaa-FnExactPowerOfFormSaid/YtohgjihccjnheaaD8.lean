/- Walks: InverseForm. -/
import Derived.Test.YtohgjihccjnheaaD7
set_option linter.unusedVariables false
set_option linter.unusedSimpArgs false
namespace Go.Proofs.Ytohgjihccjnheaa
open Go.RowKit

theorem OkP_congr {p : Int} {f f' : Nat → Int} (h : ∀ i, i < 64 → f i = f' i) : OkP p f ↔ OkP p f' :=
  ⟨fun ⟨a, b⟩ => ⟨fun i hi => by rw [← h i hi]; exact a i hi, b⟩, fun ⟨a, b⟩ => ⟨fun i hi => by rw [h i hi]; exact a i hi, b⟩⟩
theorem mkp_congr {f f' : Nat → Int} (h : ∀ i, i < 64 → f i = f' i) : mkp 64 f = mkp 64 f' := mkp_ext fun i => by split <;> simp_all
theorem FormOk_congr {p : Int} {ds : List Int} {f f' g g' : Nat → Int} (h : ∀ i, i < 64 → f i = f' i) (h2 : ∀ i, i < 64 → g i = g' i) : FormOk p ds f g ↔ FormOk p ds f' g' := by
  unfold FormOk; rw [OkP_congr h, OkP_congr h2, mkp_congr h, mkp_congr h2]
/-- The forms of a list, read back. -/
theorem fA_lit (fs : List ((Nat → Int) × (Nat → Int))) (k : Nat) (hk : k < fs.length) (i : Nat) (hi : i < 64) : fA (formsF (fs.map fun x => fmF x.1 x.2)) k i = (fs[k]).1 i := by
  unfold fA formsF
  rw [show (k * 128 + i) / 128 = k by omega, show (k * 128 + i) % 128 = i by omega, List.getD_eq_getElem?_getD, List.getElem?_map, List.getElem?_eq_getElem hk]
  show fmF _ _ i = _
  unfold fmF; rw [if_pos hi]
theorem fB_lit (fs : List ((Nat → Int) × (Nat → Int))) (k : Nat) (hk : k < fs.length) (i : Nat) (hi : i < 64) : fB (formsF (fs.map fun x => fmF x.1 x.2)) k i = (fs[k]).2 i := by
  unfold fB formsF
  rw [show (k * 128 + (64 + i)) / 128 = k by omega, show (k * 128 + (64 + i)) % 128 = 64 + i by omega, List.getD_eq_getElem?_getD, List.getElem?_map, List.getElem?_eq_getElem hk]
  show fmF _ _ (64 + i) = _
  unfold fmF; rw [if_neg (by omega), Nat.add_sub_cancel_left]
/-- What the checks of a list come to. -/
theorem frmT_lit (p : Int) (d : Nat → Int) (fs : List ((Nat → Int) × (Nat → Int))) (hd : By d) (hf : ∀ x ∈ fs, By x.1 ∧ By x.2) :
    ∃ b1 bf br T1 T2, FrmT p d (formsF (fs.map fun x => fmF x.1 x.2)) fs.length b1 bf br T1 T2 ∧ (bf = true → ∀ x ∈ fs, FormOk p (mkp 64 d) x.1 x.2) ∧ (br = true → ∀ x ∈ fs, ((mkp 64 x.1).length : Int) - 1 ≤ gns (mkp 64 d)) := by
  obtain ⟨b1, h1⟩ := dec_true (Disc p d)
  obtain ⟨T1, t1⟩ := dec_fun (fun k => FormOk p (mkp 64 d) (fA (formsF (fs.map fun x => fmF x.1 x.2)) k) (fB (formsF (fs.map fun x => fmF x.1 x.2)) k))
  let T2 : Nat → Bool := fun k => decide (((mkp 64 (fA (formsF (fs.map fun x => fmF x.1 x.2)) k)).length : Int) - 1 ≤ gns (mkp 64 d))
  obtain ⟨bf, a1⟩ := dec_all fs.length T1
  obtain ⟨br, a2⟩ := dec_all fs.length T2
  refine ⟨b1, bf, br, T1, T2, ⟨hd, ?_, h1, fun k _ => t1 k, fun k _ => rfl, a1, a2⟩, fun hb x hx => ?_, fun hb x hx => ?_⟩
  · refine fun i => formsF_in _ (fun f hfm => ?_) i
    obtain ⟨x, hx, rfl⟩ := List.mem_map.1 hfm
    exact fun j => formsF_in1 x.1 x.2 [] (hf x hx).1 (hf x hx).2 j
  · obtain ⟨k, hk, rfl⟩ := List.mem_iff_getElem.1 hx
    exact (FormOk_congr (fA_lit fs k hk) (fB_lit fs k hk)).1 ((t1 k).2 (a1.2 hb k hk))
  · obtain ⟨k, hk, rfl⟩ := List.mem_iff_getElem.1 hx
    have := of_decide_eq_true (a2.2 hb k hk)
    rwa [mkp_congr (fA_lit fs k hk)] at this
theorem codeF_no1 (bf r m br : Bool) : codeF false bf r m br = 1 := rfl
theorem codeF_no2 (r m br : Bool) : codeF true false r m br = 1 := rfl
theorem codeF_ok (br : Bool) : codeF true true true false br = 0 := rfl
theorem codeF_red : codeF true true true true false = 5 := rfl
theorem codeF_ok2 : codeF true true true true true = 0 := rfl

def invF (b1 bf : Bool) (p : Int) (f g : Nat → Int) : Nat → Int := if b1 && bf then fmF f (cf (opp p (mkp 64 f) (mkp 64 g))) else fun _ => 0
theorem u8s_fm_mkp (f h : Nat → Int) : u8s 128 (fmF (cf (mkp 64 f)) h) = u8s 128 (fmF f h) := u8s_ext fun j _ => by
  unfold fmF
  by_cases e : j < 64
  · rw [if_pos e, if_pos e, mkp_cf, if_pos e]
  · rw [if_neg e, if_neg e]

set_option maxRecDepth 20000 in
set_option maxHeartbeats 2000000 in
theorem specInverseForm_any (d f g : Nat → Int) (p : Int) (b1 bf br : Bool) (T1 T2 : Nat → Bool) (w : World) (hf : By f) (hg : By g) (hT : FrmT p d (formsF [fmF f g]) 1 b1 bf br T1 T2) (hfo : bf = true → FormOk p (mkp 64 d) f g) :
    Calls Try.prog 15 #[.int .i64 p, .agg (u8s 64 d), .agg (u8s 128 (fmF f g))] w fun e w' => e = .returned (.tuple #[.agg (u8s 128 (invF b1 bf p f g)), .int .i64 (codeF b1 bf true false br)]) ∧ Below w.heap.size w w' := by
  have hfH := Lib.hid hf
  have hgH := Lib.hid hg
  have hTH := Lib.hid hT
  have hfoH := Lib.hid hfo
  clear hf hg hT hfo
  obtain ⟨hb, hA, hB, hZ⟩ := boxes3 w (u8s 64 d) (u8s 128 (fmF f g)) (u8s 128 fun _ => 0) 24 31 31
  go_enter Try.func15, Try.ntmps15
  go_wp2_with ((with_reducible refine wpl_guard ?_); first | (refine wpl_alloc_arr rfl 31 rfl _ zForm ?_) | (refine wpl_load_arr rfl 24 _ rfl _ rfl _ _ hA _ _ uPoly sPoly ?_) | (refine wpl_load_str rfl 31 _ rfl _ rfl _ _ hB tForm sForm ?_) | (refine wpl_buildSlice_forms rfl 80 31 1 _ rfl Try.underlying80 sForm zForm [fmF f g] rfl (by decide) (by decide) rfl ?_))
  refine (l07Code_any d (formsF [fmF f g]) p 1 _ b1 bf br false T1 T2 _ (by omega) hTH.out (Blk.newAt (by simp) _ _)).mono ?_
  rintro e u0 ⟨rfl, hn⟩
  replace hA := (hA.alloc _).keep hn
  replace hB := (hB.alloc _).keep hn
  replace hZ := (hZ.alloc _).keep hn
  replace hb := below_step hb (below_step (below_new _ _) hn)
  clear hn
  cases b1
  · rw [codeF_no1]
    go_wp2_with ((with_reducible refine wpl_guard ?_); first | (refine wpl_build_zeroS rfl 31 _ _ lForm rfl ?_) | (refine wpl_store_arr rfl 31 _ _ rfl _ rfl _ rfl _ _ hZ sForm (by simp only [u8s_size]) (u8s_oneCell _ _) ?_))
    exact bodyPost_ret (res_st (x := .int .i64 1) rfl rfl (hZ.setRow_same (cs := u8s 128 fun _ => 0)) tForm sForm rfl) rfl ⟨rfl, below_setRow hb (by omega) _⟩
  cases bf
  · rw [codeF_no2]
    go_wp2_with ((with_reducible refine wpl_guard ?_); first | (refine wpl_build_zeroS rfl 31 _ _ lForm rfl ?_) | (refine wpl_store_arr rfl 31 _ _ rfl _ rfl _ rfl _ _ hZ sForm (by simp only [u8s_size]) (u8s_oneCell _ _) ?_))
    exact bodyPost_ret (res_st (x := .int .i64 1) rfl rfl (hZ.setRow_same (cs := u8s 128 fun _ => 0)) tForm sForm rfl) rfl ⟨rfl, below_setRow hb (by omega) _⟩
  rw [codeF_ok]
  have hFo := hfoH.out (by first | rfl | trivial)
  have hx := hFo.1.p64 hfH.out
  have hy := hFo.2.1.p64 hgH.out
  have hne : mkp 64 f ≠ [] := fun e => by have := hFo.2.2.2.2.1; rw [e] at this; simp at this
  have he : invF true true p f g = fmF f (cf (opp p (mkp 64 f) (mkp 64 g))) := rfl
  have hOP := opp_P64 hx hy hne
  obtain ⟨R, hR⟩ : ∃ R, opp p (mkp 64 f) (mkp 64 g) = R := ⟨_, rfl⟩
  rw [hR] at he hOP
  have heH := Lib.hid he
  have hop := fun w => l07Opposite_any p (mkp 64 g) (mkp 64 f) w hy hx hne
  rw [← u8s_mkp, ← u8s_mkp, hR] at hop
  have hopH := Lib.hid hop
  clear hFo hx hy hne he hOP hR hop
  go_wp2_with fail
  go_upto_region 4 with (fail)
  refine gen_region (ws := w) (w := _) (B := w.heap.size) (by kernel_rfl) (by kernel_rfl) (by kernel_rfl) (by kernel_rfl)
      (fun i => ([fun zv _ => zv = .pointer (some ⟨w.heap.size + 1, 0 + 0, none⟩), fun zv _ => zv = .agg (u8s 64 (f)), fun zv _ => zv = .int .i64 p, fun zv _ => zv = .pointer (some ⟨w.heap.size + 1, 0 + 64, none⟩), fun zv _ => zv = .agg (u8s 64 (g)), fun zv _ => zv = .pointer (some ⟨w.heap.size + 1, 0 + 0, none⟩), fun zv _ => zv = .agg (u8s 64 (f)), fun zv _ => zv = .agg (u8s 64 (cf R)), fun zv _ => zv = .agg (u8s 128 (fmF f (cf R))), fun _ _ => True, fun zv _ => zv = .int .i64 0] : List (Value → World → Prop)).getD i (fun _ _ => True))
      (fun i => ([false, false, true, false, false, false, false, false, false, true, true] : List Bool).getD i true)
      1 (fun zk => [9].getD zk 0) (fun zk => [8].getD zk 0) (fun zk => [6].getD zk 0) (fun zk => [26].getD zk 0) (fun zk => [w.heap.size + 1 + 1].getD zk 0) (fun zk => [128].getD zk 0) (fun zk => [(fmF f (cf R))].getD zk (fun _ => 0)) (fun zk => [(fun _ => 0)].getD zk (fun _ => 0)) (fun zk => [31].getD zk 0) hb (Nat.le_refl _)
      (fun w' => Blk w' (w.heap.size + 1) (u8s 128 (fmF f g)) 31 ∧ True) ⟨hB.drew, trivial⟩ (fun w1 w2 h hb => ⟨h.1.keep hb, trivial⟩) ?_ ?_ ?_ ?_ ?_ ?_ ?_
  · intro k hk w1 cs h
    rcases k with _|k
    · exact ⟨h.1.setRow_other (by simp only [List.getD_cons_zero, List.getD_cons_succ] <;> omega), trivial⟩
    · omega
  · intro i v w1 w2 h hb
    rcases i with _|_|_|_|_|_|_|_|_|_|_|i
    · exact h
    · exact h
    · exact h
    · exact h
    · exact h
    · exact h
    · exact h
    · exact h
    · exact h
    · exact h
    · exact h
    · exact h
  · intro k hk
    rcases k with _|k
    · kernel_rfl
    · omega
  · intro k hk
    rcases k with _|k
    · refine ⟨?_, (by kernel_rfl), hZ, fun v w' h => h, by decide, ?_⟩
      · simp only [List.getD_cons_zero, List.getD_cons_succ] <;> omega
      · intro k' hk' hne
        rcases k' with _|k'
        all_goals first | omega | exact absurd rfl hne | (refine ⟨?_, by decide⟩; simp only [List.getD_cons_zero, List.getD_cons_succ]; omega)
    · omega
  · kernel_rfl
  · intro i o ho hz a w2 hBs hSx hBl hrd hpar
    rcases i with _|_|_|_|_|_|_|_|_|_|_|i
    · obtain rfl := Option.some.inj ho
      exact wpv_of (wp_fieldB 31 _ 0 rfl 0 64 fForm0 (w.heap.size + 1) 0 (hpar 5 _ (by kernel_rfl) (by kernel_rfl))) (fun _ _ => rfl)
    · obtain rfl := Option.some.inj ho
      obtain ⟨_, e18⟩ : ∃ _w : World, a.eval (.tmp 18) = .pointer (some ⟨w.heap.size + 1, 0 + 0, none⟩) := (hrd 0 _ 18 rfl rfl (by kernel_rfl) (by kernel_rfl) (by decide)).1
      exact wpv_of (wp_load_A 24 _ rfl _ e18 _ _ _ hSx.1 uPoly sPoly) (fun _ _ => rfl)
    · obtain rfl := Option.some.inj ho
      have e0 : a.eval (.tmp 0) = .int .i64 p := hpar 0 _ (by kernel_rfl) (by kernel_rfl)
      exact wpv_of (wp_move _ _ rfl e0) (fun _ _ => rfl)
    · obtain rfl := Option.some.inj ho
      exact wpv_of (wp_fieldB 31 _ 1 rfl 64 64 fForm1 (w.heap.size + 1) 0 (hpar 5 _ (by kernel_rfl) (by kernel_rfl))) (fun _ _ => rfl)
    · obtain rfl := Option.some.inj ho
      obtain ⟨_, e21⟩ : ∃ _w : World, a.eval (.tmp 21) = .pointer (some ⟨w.heap.size + 1, 0 + 64, none⟩) := (hrd 3 _ 21 rfl rfl (by kernel_rfl) (by kernel_rfl) (by decide)).1
      exact wpv_of (wp_load_B 24 _ rfl _ e21 _ _ _ hSx.1 uPoly sPoly) (fun _ _ => rfl)
    · obtain rfl := Option.some.inj ho
      exact wpv_of (wp_fieldB 31 _ 0 rfl 0 64 fForm0 (w.heap.size + 1) 0 (hpar 5 _ (by kernel_rfl) (by kernel_rfl))) (fun _ _ => rfl)
    · obtain rfl := Option.some.inj ho
      obtain ⟨_, e23⟩ : ∃ _w : World, a.eval (.tmp 23) = .pointer (some ⟨w.heap.size + 1, 0 + 0, none⟩) := (hrd 5 _ 23 rfl rfl (by kernel_rfl) (by kernel_rfl) (by decide)).1
      exact wpv_of (wp_load_A 24 _ rfl _ e23 _ _ _ hSx.1 uPoly sPoly) (fun _ _ => rfl)
    · obtain rfl := Option.some.inj ho
      obtain ⟨_, e20⟩ : ∃ _w : World, a.eval (.tmp 20) = .int .i64 p := (hrd 2 _ 20 rfl rfl (by kernel_rfl) (by kernel_rfl) (by decide)).1
      obtain ⟨_, e22⟩ : ∃ _w : World, a.eval (.tmp 22) = .agg (u8s 64 (g)) := (hrd 4 _ 22 rfl rfl (by kernel_rfl) (by kernel_rfl) (by decide)).1
      obtain ⟨_, e24⟩ : ∃ _w : World, a.eval (.tmp 24) = .agg (u8s 64 (f)) := (hrd 6 _ 24 rfl rfl (by kernel_rfl) (by kernel_rfl) (by decide)).1
      exact wpv_call 37 [.tmp 20, .tmp 22, .tmp 24] _ rfl [.int .i64 p, .agg (u8s 64 (g)), .agg (u8s 64 (f))] (by simp only [List.map_cons, List.map_nil, e20, e22, e24]) Try.call37 ((hopH.out w2).mono fun _ _ ⟨h1, h2⟩ => ⟨_, h1, rfl, h2⟩)
    · obtain rfl := Option.some.inj ho
      obtain ⟨_, e19⟩ : ∃ _w : World, a.eval (.tmp 19) = .agg (u8s 64 (f)) := (hrd 1 _ 19 rfl rfl (by kernel_rfl) (by kernel_rfl) (by decide)).1
      obtain ⟨_, e25⟩ : ∃ _w : World, a.eval (.tmp 25) = .agg (u8s 64 (cf R)) := (hrd 7 _ 25 rfl rfl (by kernel_rfl) (by kernel_rfl) (by decide)).1
      exact wpv_of (wp_build_pair 31 64 64 _ lForm (by rw [u8s_size]) _ _ rfl _ _ e19 e25 (by simp only [Value.cells, u8s_size]) (by simp only [Value.cells, u8s_size]) _ (fmF_app _ _)) (fun _ _ => rfl)
    · exact absurd rfl (hz 0 (by decide))
    · obtain rfl := Option.some.inj ho
      exact wpv_of (wp_assign _ (.int .i64 0) rfl rfl) (fun _ _ => rfl)
    · simp at ho
  intro vals xE hBx hSx hS0 hcs hrs
  obtain ⟨_, e0⟩ : ∃ _w : World, vals 0 = .pointer (some ⟨w.heap.size + 1, 0 + 0, none⟩) := hcs 0 (by simp) (by decide)
  obtain ⟨_, e1⟩ : ∃ _w : World, vals 1 = .agg (u8s 64 (f)) := hcs 1 (by simp) (by decide)
  obtain ⟨_, e2⟩ : ∃ _w : World, vals 2 = .int .i64 p := hcs 2 (by simp) (by decide)
  obtain ⟨_, e3⟩ : ∃ _w : World, vals 3 = .pointer (some ⟨w.heap.size + 1, 0 + 64, none⟩) := hcs 3 (by simp) (by decide)
  obtain ⟨_, e4⟩ : ∃ _w : World, vals 4 = .agg (u8s 64 (g)) := hcs 4 (by simp) (by decide)
  obtain ⟨_, e5⟩ : ∃ _w : World, vals 5 = .pointer (some ⟨w.heap.size + 1, 0 + 0, none⟩) := hcs 5 (by simp) (by decide)
  obtain ⟨_, e6⟩ : ∃ _w : World, vals 6 = .agg (u8s 64 (f)) := hcs 6 (by simp) (by decide)
  obtain ⟨_, e7⟩ : ∃ _w : World, vals 7 = .agg (u8s 64 (cf R)) := hcs 7 (by simp) (by decide)
  obtain ⟨_, e8⟩ : ∃ _w : World, vals 8 = .agg (u8s 128 (fmF f (cf R))) := hcs 8 (by simp) (by decide)
  obtain ⟨_, e10⟩ : ∃ _w : World, vals 10 = .int .i64 0 := hcs 10 (by simp) (by decide)
  have hsE0 : Blk xE (w.heap.size + 1 + 1) (u8s 128 (fmF f (cf R))) 31 := hrs 0 (by decide)
  simp only [List.length_cons, List.length_nil, Nat.zero_add, Nat.reduceAdd, List.replicate, putAll, if_true, Act.put, List.setIfInBounds_toArray, List.set_cons_zero, List.set_cons_succ, e0, e1, e2, e3, e4, e5, e6, e7, e8, e10]
  replace hB := hSx.1
  clear hcs hrs hS0 hSx e0 e1 e2 e3 e4 e5 e6 e7 e8 e10
  go_wp2_with fail
  exact bodyPost_ret (res_st (x := .int .i64 0) rfl rfl hsE0 tForm sForm rfl) rfl ⟨by rw [heH.out]; rfl, hBx⟩

set_option maxRecDepth 20000 in
set_option maxHeartbeats 2000000 in
theorem implInverseForm_any (d f g : Nat → Int) (p : Int) (b1 bf br : Bool) (T1 T2 : Nat → Bool) (w : World) (hf : By f) (hg : By g) (hT : FrmT p d (formsF [fmF f g]) 1 b1 bf br T1 T2) (hfo : bf = true → FormOk p (mkp 64 d) f g) :
    Calls Try.prog 16 #[.int .i64 p, .agg (u8s 64 d), .agg (u8s 128 (fmF f g))] w fun e w' => e = .returned (.tuple #[.agg (u8s 128 (invF b1 bf p f g)), .int .i64 (codeF b1 bf true false br)]) ∧ Below w.heap.size w w' := by
  have hfH := Lib.hid hf
  have hgH := Lib.hid hg
  have hTH := Lib.hid hT
  have hfoH := Lib.hid hfo
  clear hf hg hT hfo
  obtain ⟨hb, hA, hB, hZ⟩ := boxes3 w (u8s 64 d) (u8s 128 (fmF f g)) (u8s 128 fun _ => 0) 24 31 31
  go_enter Try.func16, Try.ntmps16
  go_wp2_with ((with_reducible refine wpl_guard ?_); first | (refine wpl_alloc_arr rfl 31 rfl _ zForm ?_) | (refine wpl_load_arr rfl 24 _ rfl _ rfl _ _ hA _ _ uPoly sPoly ?_) | (refine wpl_load_str rfl 31 _ rfl _ rfl _ _ hB tForm sForm ?_) | (refine wpl_buildSlice_forms rfl 80 31 1 _ rfl Try.underlying80 sForm zForm [fmF f g] rfl (by decide) (by decide) rfl ?_))
  refine (formCode_any d (formsF [fmF f g]) p 1 _ 31 b1 bf br true false T1 T2 _ (by omega) hTH.out (Blk.newAt (by simp) _ _)).mono ?_
  rintro e u0 ⟨rfl, hn⟩
  replace hA := (hA.alloc _).keep hn
  replace hB := (hB.alloc _).keep hn
  replace hZ := (hZ.alloc _).keep hn
  replace hb := below_step hb (below_step (below_new _ _) hn)
  clear hn
  cases b1
  · rw [codeF_no1]
    go_wp2_with ((with_reducible refine wpl_guard ?_); first | (refine wpl_build_zeroS rfl 31 _ _ lForm rfl ?_) | (refine wpl_store_arr rfl 31 _ _ rfl _ rfl _ rfl _ _ hZ sForm (by simp only [u8s_size]) (u8s_oneCell _ _) ?_))
    exact bodyPost_ret (res_st (x := .int .i64 1) rfl rfl (hZ.setRow_same (cs := u8s 128 fun _ => 0)) tForm sForm rfl) rfl ⟨rfl, below_setRow hb (by omega) _⟩
  cases bf
  · rw [codeF_no2]
    go_wp2_with ((with_reducible refine wpl_guard ?_); first | (refine wpl_build_zeroS rfl 31 _ _ lForm rfl ?_) | (refine wpl_store_arr rfl 31 _ _ rfl _ rfl _ rfl _ _ hZ sForm (by simp only [u8s_size]) (u8s_oneCell _ _) ?_))
    exact bodyPost_ret (res_st (x := .int .i64 1) rfl rfl (hZ.setRow_same (cs := u8s 128 fun _ => 0)) tForm sForm rfl) rfl ⟨rfl, below_setRow hb (by omega) _⟩
  rw [codeF_ok]
  have hFo := hfoH.out (by first | rfl | trivial)
  have hx := hFo.1.p64 hfH.out
  have hy := hFo.2.1.p64 hgH.out
  have hne : mkp 64 f ≠ [] := fun e => by have := hFo.2.2.2.2.1; rw [e] at this; simp at this
  have he : invF true true p f g = fmF f (cf (opp p (mkp 64 f) (mkp 64 g))) := rfl
  have hOP := opp_P64 hx hy hne
  obtain ⟨R, hR⟩ : ∃ R, opp p (mkp 64 f) (mkp 64 g) = R := ⟨_, rfl⟩
  rw [hR] at he hOP
  have heH := Lib.hid he
  obtain ⟨ds, hds⟩ : ∃ ds, mkp 64 d = ds := ⟨_, rfl⟩
  have k1 := fun w => curveOf_any p d w hTH.out.hd
  rw [hds] at k1
  have k2 := fun w => formOf_any f g w hfH.out hgH.out
  have k3 := fun vd va vb w (h1 : IsRow w va (mkp 64 f)) (h2 : IsRow w vb (mkp 64 g)) => opposite_any vd va vb p _ _ w h1 h2 hx hy hne
  rw [hR] at k3
  have k4 := fun va vb w (h1 : IsRow w va (mkp 64 f)) (h2 : IsRow w vb R) => toldF_any va vb p _ _ w h1 h2 hx hOP
  rw [u8s_fm_mkp] at k4
  have k1H := Lib.hid k1
  have k2H := Lib.hid k2
  have k3H := Lib.hid k3
  have k4H := Lib.hid k4
  clear hFo hx hy hne he hOP hR hds k1 k2 k3 k4
  go_wp2_with fail
  go_upto_region 4 with (fail)
  refine gen_region (ws := w) (w := _) (B := w.heap.size) (by kernel_rfl) (by kernel_rfl) (by kernel_rfl) (by kernel_rfl)
      (fun i => ([fun zv _ => zv = .int .i64 p, fun zv _ => zv = .agg (u8s 64 d), fun v w => ∃ vd, v = .agg #[.int .i64 p, vd] ∧ IsRow w vd ds, fun zv _ => zv = .agg (u8s 128 (fmF f g)), fun v w => ∃ va vb, v = .agg #[va, vb] ∧ IsRow w va (mkp 64 f) ∧ IsRow w vb (mkp 64 g), fun v w => ∃ va vb, v = .agg #[va, vb] ∧ IsRow w va (mkp 64 f) ∧ IsRow w vb (R), fun zv _ => zv = .agg (u8s 128 (fmF f (cf R))), fun _ _ => True, fun zv _ => zv = .int .i64 0] : List (Value → World → Prop)).getD i (fun _ _ => True))
      (fun i => ([true, true, false, false, false, false, false, true, true] : List Bool).getD i true)
      1 (fun zk => [7].getD zk 0) (fun zk => [6].getD zk 0) (fun zk => [6].getD zk 0) (fun zk => [24].getD zk 0) (fun zk => [w.heap.size + 1 + 1].getD zk 0) (fun zk => [128].getD zk 0) (fun zk => [(fmF f (cf R))].getD zk (fun _ => 0)) (fun zk => [(fun _ => 0)].getD zk (fun _ => 0)) (fun zk => [31].getD zk 0) hb (Nat.le_refl _)
      (fun w' => Blk w' (w.heap.size) (u8s 64 d) 24 ∧ Blk w' (w.heap.size + 1) (u8s 128 (fmF f g)) 31 ∧ True) ⟨hA.drew, hB.drew, trivial⟩ (fun w1 w2 h hb => ⟨h.1.keep hb, h.2.1.keep hb, trivial⟩) ?_ ?_ ?_ ?_ ?_ ?_ ?_
  · intro k hk w1 cs h
    rcases k with _|k
    · exact ⟨h.1.setRow_other (by simp only [List.getD_cons_zero, List.getD_cons_succ] <;> omega), h.2.1.setRow_other (by simp only [List.getD_cons_zero, List.getD_cons_succ] <;> omega), trivial⟩
    · omega
  · intro i v w1 w2 h hb
    rcases i with _|_|_|_|_|_|_|_|_|i
    · exact h
    · exact h
    · obtain ⟨vd, e, h1⟩ := h; exact ⟨vd, e, h1.below hb⟩
    · exact h
    · obtain ⟨va, vb, e, h1, h2⟩ := h; exact ⟨va, vb, e, h1.below hb, h2.below hb⟩
    · obtain ⟨va, vb, e, h1, h2⟩ := h; exact ⟨va, vb, e, h1.below hb, h2.below hb⟩
    · exact h
    · exact h
    · exact h
    · exact h
  · intro k hk
    rcases k with _|k
    · kernel_rfl
    · omega
  · intro k hk
    rcases k with _|k
    · refine ⟨?_, (by kernel_rfl), hZ, fun v w' h => h, by decide, ?_⟩
      · simp only [List.getD_cons_zero, List.getD_cons_succ] <;> omega
      · intro k' hk' hne
        rcases k' with _|k'
        all_goals first | omega | exact absurd rfl hne | (refine ⟨?_, by decide⟩; simp only [List.getD_cons_zero, List.getD_cons_succ]; omega)
    · omega
  · kernel_rfl
  · intro i o ho hz a w2 hBs hSx hBl hrd hpar
    rcases i with _|_|_|_|_|_|_|_|_|i
    · obtain rfl := Option.some.inj ho
      have e0 : a.eval (.tmp 0) = .int .i64 p := hpar 0 _ (by kernel_rfl) (by kernel_rfl)
      exact wpv_of (wp_move _ _ rfl e0) (fun _ _ => rfl)
    · obtain rfl := Option.some.inj ho
      exact wpv_of (wp_loadB 24 _ rfl _ (hpar 4 (.pointer (some ⟨w.heap.size, 0, none⟩)) (by kernel_rfl) (by kernel_rfl)) _ _ hSx.1 _ _ uPoly sPoly) (fun _ _ => rfl)
    · obtain rfl := Option.some.inj ho
      obtain ⟨_, e18⟩ : ∃ _w : World, a.eval (.tmp 18) = .int .i64 p := (hrd 0 _ 18 rfl rfl (by kernel_rfl) (by kernel_rfl) (by decide)).1
      obtain ⟨_, e19⟩ : ∃ _w : World, a.eval (.tmp 19) = .agg (u8s 64 d) := (hrd 1 _ 19 rfl rfl (by kernel_rfl) (by kernel_rfl) (by decide)).1
      exact wpv_call 33 [.tmp 18, .tmp 19] _ rfl [.int .i64 p, .agg (u8s 64 d)] (by simp only [List.map_cons, List.map_nil, e18, e19]) Try.call33 ((k1H.out w2).mono fun _ _ ⟨vd, h1, h2, h3⟩ => ⟨_, h1, ⟨vd, rfl, h2⟩, h3⟩)
    · obtain rfl := Option.some.inj ho
      exact wpv_of (wp_loadS 31 _ rfl _ (hpar 5 (.pointer (some ⟨w.heap.size + 1, 0, none⟩)) (by kernel_rfl) (by kernel_rfl)) _ _ hSx.2.1 tForm sForm) (fun _ _ => rfl)
    · obtain rfl := Option.some.inj ho
      obtain ⟨_, e21⟩ : ∃ _w : World, a.eval (.tmp 21) = .agg (u8s 128 (fmF f g)) := (hrd 3 _ 21 rfl rfl (by kernel_rfl) (by kernel_rfl) (by decide)).1
      exact wpv_call 35 [.tmp 21] _ rfl [.agg (u8s 128 (fmF f g))] (by simp only [List.map_cons, List.map_nil, e21]) Try.call35 ((k2H.out w2).mono fun _ _ ⟨va, vb, h1, h2, h3, h4⟩ => ⟨_, h1, ⟨va, vb, rfl, h2, h3⟩, h4⟩)
    · obtain rfl := Option.some.inj ho
      have h20 : (fun v w => ∃ vd, v = .agg #[.int .i64 p, vd] ∧ IsRow w vd ds) (a.eval (.tmp 20)) w2 := (hrd 2 _ 20 rfl rfl (by kernel_rfl) (by kernel_rfl) (by decide)).2 rfl
      generalize e20 : a.eval (.tmp 20) = v20 at h20
      have h22 : (fun v w => ∃ va vb, v = .agg #[va, vb] ∧ IsRow w va (mkp 64 f) ∧ IsRow w vb (mkp 64 g)) (a.eval (.tmp 22)) w2 := (hrd 4 _ 22 rfl rfl (by kernel_rfl) (by kernel_rfl) (by decide)).2 rfl
      generalize e22 : a.eval (.tmp 22) = v22 at h22
      exact wpv_call 39 [.tmp 20, .tmp 22] _ rfl [v20, v22] (by simp only [List.map_cons, List.map_nil, e20, e22]) Try.call39 (by obtain ⟨vd, rfl, _⟩ := h20; obtain ⟨va, vb, rfl, hr2, hr3⟩ := h22; exact (k3H.out _ _ _ w2 hr2 hr3).mono fun _ _ ⟨va, vb, h1, h2, h3, h4⟩ => ⟨_, h1, ⟨va, vb, rfl, h2, h3⟩, h4⟩)
    · obtain rfl := Option.some.inj ho
      have h23 : (fun v w => ∃ va vb, v = .agg #[va, vb] ∧ IsRow w va (mkp 64 f) ∧ IsRow w vb (R)) (a.eval (.tmp 23)) w2 := (hrd 5 _ 23 rfl rfl (by kernel_rfl) (by kernel_rfl) (by decide)).2 rfl
      generalize e23 : a.eval (.tmp 23) = v23 at h23
      exact wpv_call 40 [.tmp 23] _ rfl [v23] (by simp only [List.map_cons, List.map_nil, e23]) Try.call40 (by obtain ⟨va, vb, rfl, hr2, hr3⟩ := h23; exact (k4H.out _ _ w2 hr2 hr3).mono fun _ _ ⟨h1, h2⟩ => ⟨_, h1, rfl, h2⟩)
    · exact absurd rfl (hz 0 (by decide))
    · obtain rfl := Option.some.inj ho
      exact wpv_of (wp_assign _ (.int .i64 0) rfl rfl) (fun _ _ => rfl)
    · simp at ho
  intro vals xE hBx hSx hS0 hcs hrs
  obtain ⟨_, e0⟩ : ∃ _w : World, vals 0 = .int .i64 p := hcs 0 (by simp) (by decide)
  obtain ⟨_, e1⟩ : ∃ _w : World, vals 1 = .agg (u8s 64 d) := hcs 1 (by simp) (by decide)
  obtain ⟨_, e3⟩ : ∃ _w : World, vals 3 = .agg (u8s 128 (fmF f g)) := hcs 3 (by simp) (by decide)
  obtain ⟨_, e6⟩ : ∃ _w : World, vals 6 = .agg (u8s 128 (fmF f (cf R))) := hcs 6 (by simp) (by decide)
  obtain ⟨_, e8⟩ : ∃ _w : World, vals 8 = .int .i64 0 := hcs 8 (by simp) (by decide)
  have hsE0 : Blk xE (w.heap.size + 1 + 1) (u8s 128 (fmF f (cf R))) 31 := hrs 0 (by decide)
  simp only [List.length_cons, List.length_nil, Nat.zero_add, Nat.reduceAdd, List.replicate, putAll, if_true, Act.put, List.setIfInBounds_toArray, List.set_cons_zero, List.set_cons_succ, e0, e1, e3, e6, e8]
  replace hA := hSx.1
  replace hB := hSx.2.1
  clear hcs hrs hS0 hSx e0 e1 e3 e6 e8
  go_wp2_with fail
  exact bodyPost_ret (res_st (x := .int .i64 0) rfl rfl hsE0 tForm sForm rfl) rfl ⟨by rw [heH.out]; rfl, hBx⟩

theorem InverseForm_pair (p : Int) (d F : Nat → Int) (_ : (Lit.int .i64 p).wf = true) (hd : By d) (hF : By F) : ∃ (r0 : Nat → Int) (r1 : Int),
    (∀ w, Calls Try.prog 15 #[.int .i64 p, .agg (u8s 64 d), .agg (u8s 128 F)] w fun e w' => e = .returned (.tuple #[.agg (u8s 128 r0), .int .i64 r1]) ∧ Below w.heap.size w w') ∧
    (∀ w, Calls Try.prog 16 #[.int .i64 p, .agg (u8s 64 d), .agg (u8s 128 F)] w fun e w' => e = .returned (.tuple #[.agg (u8s 128 r0), .int .i64 r1]) ∧ Below w.heap.size w w') := by
  obtain ⟨b1, bf, br, T1, T2, hT, h1, _⟩ := frmT_lit p d [(F, fun j => F (64 + j))] hd (fun x hx => by rw [List.mem_singleton] at hx; subst hx; exact ⟨hF, fun j => hF _⟩)
  rw [fmF_self F]
  exact ⟨_, _, fun w => specInverseForm_any d F _ p b1 bf br T1 T2 w hF (fun j => hF _) hT (fun hb => h1 hb (F, fun j => F (64 + j)) (by simp)), fun w => implInverseForm_any d F _ p b1 bf br T1 T2 w hF (fun j => hF _) hT (fun hb => h1 hb (F, fun j => F (64 + j)) (by simp))⟩
end Go.Proofs.Ytohgjihccjnheaa
