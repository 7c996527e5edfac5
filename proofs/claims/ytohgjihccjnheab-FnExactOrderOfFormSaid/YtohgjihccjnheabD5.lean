/- Walks: lists of forms, checked on both sides. -/
import Derived.Test.YtohgjihccjnheabD4
import Derived.Test.YtohgjihccjnheabBF
set_option linter.unusedVariables false
set_option linter.unusedSimpArgs false
namespace Go.Proofs.Ytohgjihccjnheab
open Go.RowKit

/-- The genus of a discriminant's list. -/
def gns (ds : List Int) : Int := ((ds.length : Int) - 1 - 1).tdiv 2
theorem gns_rng (ds : List Int) (h : ds.length ≤ 64) : -5 ≤ gns ds ∧ gns ds ≤ 100 := by
  unfold gns
  by_cases h2 : 2 ≤ ds.length
  · rw [Int.tdiv_eq_ediv_of_nonneg (by omega)]; omega
  · have : ds.length = 0 ∨ ds.length = 1 := by omega
    rcases this with e | e <;> rw [e] <;> decide

set_option maxRecDepth 20000 in
set_option maxHeartbeats 2000000 in
theorem genus_any (vd : Value) (p : Int) (ds : List Int) (w : World) (hr : IsRow w vd ds) (hl : ds.length ≤ 64) :
    Calls Try.prog 68 #[.agg #[.int .i64 p, vd]] w fun e w' => e = .returned (.int .i64 (gns ds)) ∧ Below w.heap.size w w' := by
  obtain ⟨L, hL⟩ : ∃ L, ds.length = L := ⟨_, rfl⟩
  have h1 := fun w (h : IsRow w vd ds) => degree_any vd ds w h
  unfold gns
  rw [hL] at h1 ⊢
  have h1H := Lib.hid h1
  have hl' : L ≤ 64 := hL ▸ hl
  have hrH := Lib.hid hr
  obtain ⟨hb, hC⟩ := boxes1 w #[.int .i64 p, vd] 42
  replace hrH := Lib.hid (hrH.out.below hb)
  have c1 : (w.alloc (.cells #[.int .i64 p, vd] 42)).cell? ⟨w.heap.size, 1, none⟩ = some vd := by rw [hC.cell]; rfl
  clear h1 hL hl hr
  go_enter Try.func68, Try.ntmps68
  go_wp2_with fail
  refine (h1H.out _ hrH.out).mono ?_
  rintro e v1 ⟨rfl, rfl⟩
  go_wp2_with fail
  go_ret
  exact ⟨rfl, hb⟩

set_option maxRecDepth 20000 in
set_option maxHeartbeats 2000000 in
theorem isReduced_any (vd va vb : Value) (p : Int) (ds xs : List Int) (b : Bool) (w : World) (hd : IsRow w vd ds) (ha : IsRow w va xs) (hl : ds.length ≤ 64) (hb : decide ((xs.length : Int) - 1 ≤ gns ds) = b) :
    Calls Try.prog 36 #[.agg #[.int .i64 p, vd], .agg #[va, vb]] w fun e w' => e = .returned (.bool b) ∧ Below w.heap.size w w' := by
  have h1 := Lib.hid (fun w (h : IsRow w va xs) => degree_any va xs w h)
  have h2 := Lib.hid (fun w (h : IsRow w vd ds) => genus_any vd p ds w h hl)
  have hcH : Hid (cmpB .leq ((xs.length : Int) - 1) (gns ds) = b) := Lib.hid hb
  have hdH := Lib.hid hd
  have haH := Lib.hid ha
  clear hd ha hl hb
  obtain ⟨hb, hC, hA⟩ := boxes2 w #[.int .i64 p, vd] #[va, vb] 42 46
  have hB0 := hb
  go_enter Try.func36, Try.ntmps36
  go_upto_region 1 with (fail)
  refine gen_guard (w := _) (by kernel_rfl) (by kernel_rfl) (by kernel_rfl)
      (fun i => ([fun zv _ => zv = .pointer (some ⟨w.heap.size + 1, 0 + 0, none⟩), fun zv _ => zv = va, fun zv _ => zv = .int .i64 ((xs.length : Int) - 1), fun zv _ => zv = .agg #[.int .i64 p, vd], fun zv _ => zv = .int .i64 (gns ds), fun zv _ => zv = .bool b, fun zv _ => zv = .bool b] : List (Value → World → Prop)).getD i (fun _ _ => True))
      (fun w' => Blk w' (w.heap.size) (#[.int .i64 p, vd]) 42 ∧ Blk w' (w.heap.size + 1) (#[va, vb]) 46 ∧ True) ⟨hC.drew, hA.drew, trivial⟩ (fun w1 w2 h hb => ⟨h.1.keep hb, h.2.1.keep hb, trivial⟩) ?_ ?_ ?_
  · intro i v w1 w2 h hb
    rcases i with _|_|_|_|_|_|_|i
    · exact h
    · exact h
    · exact h
    · exact h
    · exact h
    · exact h
    · exact h
    · exact h
  · intro i o ho a w2 hBl hSx hrd hpar
    rcases i with _|_|_|_|_|_|_|i
    · obtain rfl := Option.some.inj ho
      refine .inl ⟨rfl, ?_⟩
      exact wpv_of (wp_fieldB 46 _ 0 rfl 0 1 fform0 (w.heap.size + 1) 0 (hpar 3 _ (by kernel_rfl) (by kernel_rfl))) (fun _ _ => rfl)
    · obtain rfl := Option.some.inj ho
      refine .inl ⟨rfl, ?_⟩
      have e5 : a.eval (.tmp 5) = .pointer (some ⟨w.heap.size + 1, 0 + 0, none⟩) := hrd 0 _ 5 rfl rfl (by kernel_rfl) (by kernel_rfl)
      exact wpv_of (wp_load_slice 40 2 _ rfl _ e5 uRowT _ (by rw [hSx.2.1.cell]; rfl)) (fun _ _ => rfl)
    · obtain rfl := Option.some.inj ho
      refine .inl ⟨rfl, ?_⟩
      have e6 : a.eval (.tmp 6) = va := hrd 1 _ 6 rfl rfl (by kernel_rfl) (by kernel_rfl)
      exact wpv_call 62 [.tmp 6] _ rfl [va] (by simp only [List.map_cons, List.map_nil, e6]) Try.call62 ((h1.out w2 (haH.out.below (hB0.trans (hBl.mono hB0.size)))).mono fun _ _ ⟨h1, h2⟩ => ⟨_, h1, rfl, h2 ▸ Below.refl _ _⟩)
    · obtain rfl := Option.some.inj ho
      refine .inl ⟨rfl, ?_⟩
      exact wpv_of (wp_loadS 42 _ rfl _ (hpar 2 (.pointer (some ⟨w.heap.size, 0, none⟩)) (by kernel_rfl) (by kernel_rfl)) _ _ hSx.1 tcurve scurve) (fun _ _ => rfl)
    · obtain rfl := Option.some.inj ho
      refine .inl ⟨rfl, ?_⟩
      have e8 : a.eval (.tmp 8) = .agg #[.int .i64 p, vd] := hrd 3 _ 8 rfl rfl (by kernel_rfl) (by kernel_rfl)
      exact wpv_call 68 [.tmp 8] _ rfl [.agg #[.int .i64 p, vd]] (by simp only [List.map_cons, List.map_nil, e8]) Try.call68 ((h2.out w2 (hdH.out.below (hB0.trans (hBl.mono hB0.size)))).mono fun _ _ ⟨h1, h2⟩ => ⟨_, h1, rfl, h2⟩)
    · obtain rfl := Option.some.inj ho
      refine .inl ⟨rfl, ?_⟩
      have e7 : a.eval (.tmp 7) = .int .i64 ((xs.length : Int) - 1) := hrd 2 _ 7 rfl rfl (by kernel_rfl) (by kernel_rfl)
      have e9 : a.eval (.tmp 9) = .int .i64 (gns ds) := hrd 4 _ 9 rfl rfl (by kernel_rfl) (by kernel_rfl)
      exact wpv_of (wp_cmp .leq _ _ _ _ rfl rfl .i64 _ _ e7 e9 _ hcH.out) (fun _ _ => rfl)
    · obtain rfl := Option.some.inj ho
      refine .inl ⟨rfl, ?_⟩
      have e10 : a.eval (.tmp 10) = .bool b := hrd 5 _ 10 rfl rfl (by kernel_rfl) (by kernel_rfl)
      exact wpv_of (wp_assign _ _ rfl e10) (fun _ _ => rfl)
    · simp at ho
  intro vals xE hBx hSx hc0
  have e0 : vals 0 = .pointer (some ⟨w.heap.size + 1, 0 + 0, none⟩) := hc0 0 (by simp)
  have e1 : vals 1 = va := hc0 1 (by simp)
  have e2 : vals 2 = .int .i64 ((xs.length : Int) - 1) := hc0 2 (by simp)
  have e3 : vals 3 = .agg #[.int .i64 p, vd] := hc0 3 (by simp)
  have e4 : vals 4 = .int .i64 (gns ds) := hc0 4 (by simp)
  have e5 : vals 5 = .bool b := hc0 5 (by simp)
  have e6 : vals 6 = .bool b := hc0 6 (by simp)
  simp only [List.length_cons, List.length_nil, Nat.zero_add, Nat.reduceAdd, List.replicate, putAll, if_true, Act.put, List.setIfInBounds_toArray, List.set_cons_zero, List.set_cons_succ, e0, e1, e2, e3, e4, e5, e6]
  replace hC := hSx.1
  replace hA := hSx.2.1
  replace hb := below_step hb hBx
  clear hc0 hSx e0 e1 e2 e3 e4 e5 e6
  go_wp2_with fail
  go_ret
  exact ⟨rfl, hb⟩

set_option maxRecDepth 20000 in
set_option maxHeartbeats 2000000 in
theorem l07Genus_any (d : Nat → Int) (w : World) (hd : By d) :
    Calls Try.prog 28 #[.agg (u8s 64 d)] w fun e w' => e = .returned (.int .i64 (gns (mkp 64 d))) ∧ Below w.heap.size w w' := by
  obtain ⟨L, hL⟩ : ∃ L, (mkp 64 d).length = L := ⟨_, rfl⟩
  have h1 := fun w => l01Deg_any d w hd.on
  unfold gns
  rw [hL] at h1 ⊢
  have h1H := Lib.hid h1
  have hl' : L ≤ 64 := hL ▸ mkp_length 64 d
  clear h1 hL hd
  obtain ⟨hb, hA⟩ := boxes1 w (u8s 64 d) 27
  go_enter Try.func28, Try.ntmps28
  go_wp2_with ((with_reducible refine wpl_guard ?_); first | (refine wpl_load_arr rfl 27 _ rfl _ rfl _ _ hA _ _ uPoly sPoly ?_))
  refine (h1H.out _).mono ?_
  rintro e u1 ⟨rfl, hn⟩
  replace hA := hA.keep hn
  replace hb := below_step hb hn
  clear hn
  go_wp2_with fail
  go_ret
  exact ⟨rfl, hb⟩

/-- A form among a list's cells. -/
def fA (F : Nat → Int) (k : Nat) : Nat → Int := fun q => F (k * 128 + q)
def fB (F : Nat → Int) (k : Nat) : Nat → Int := fun q => F (k * 128 + (64 + q))
theorem fAB (F : Nat → Int) (k : Nat) : u8s 128 (fun q => F (k * 128 + q)) = u8s 128 (fmF (fA F k) (fB F k)) := fmF_self _
def CapOk (w : World) (bp bd : Nat) (p : Int) (d : Nat → Int) : Prop := w.cell? ⟨bp, 0, none⟩ = some (.int .i64 p) ∧ Blk w bd (u8s 64 d) 27
theorem CapOk.below {w w' : World} {bp bd : Nat} {p : Int} {d : Nat → Int} (h : CapOk w bp bd p d) (hb : Below w.heap.size w w') : CapOk w' bp bd p d := ⟨cell_below h.1 hb, h.2.keep hb⟩

set_option maxRecDepth 20000 in
set_option maxHeartbeats 2000000 in
theorem formCode1_any (d f g : Nat → Int) (p : Int) (bp bd : Nat) (b : Bool) (w : World) (hd : By d) (hf : By f) (hg : By g) (hc : CapOk w bp bd p d) (hdi : Disc p d ↔ true = true) (hb : FormOk p (mkp 64 d) f g ↔ b = true) :
    Calls Try.prog 33 #[.agg (u8s 128 (fmF f g)), .pointer (some ⟨bp, 0, none⟩), .pointer (some ⟨bd, 0, none⟩)] w fun e w' => e = .returned (.bool b) ∧ Below w.heap.size w w' := by
  have h1 := Lib.hid (fun w => implIsForm_any d f g p true b w hd hf hg hdi (fun _ => hb))
  have hcp := hc.1
  have hbp : bp < w.heap.size := block_lt_of_cell hcp
  have hbd := hc.2.lt
  have hb0 := below_new w (.cells (u8s 128 (fmF f g)) 30)
  have hD := hc.2.keep hb0
  have hA := Blk.new w (u8s 128 (fmF f g)) 30
  have hcp2 : (w.alloc (.cells (u8s 128 (fmF f g)) 30)).cell? ⟨bp, 0, none⟩ = some (.int .i64 p) := cell_below hcp hb0
  clear hc hcp hd hf hg hdi hb
  go_enter Try.func33, Try.ntmps33
  go_wp2_with ((with_reducible refine wpl_guard ?_); first | (refine wpl_load_arr rfl 27 _ rfl _ rfl _ _ hD _ _ uPoly sPoly ?_) | (refine wpl_load_str rfl 30 _ rfl _ rfl _ _ hA tForm sForm ?_))
  refine (h1.out _).mono ?_
  rintro e u1 ⟨rfl, hn⟩
  go_wp2_with fail
  go_ret
  exact ⟨rfl, below_step hb0 hn⟩

set_option maxRecDepth 20000 in
set_option maxHeartbeats 2000000 in
theorem formCode2_any (d f g : Nat → Int) (p : Int) (bp bd : Nat) (b : Bool) (w : World) (hd : By d) (hf : By f) (hg : By g) (hc : CapOk w bp bd p d) (hbb : decide (((mkp 64 f).length : Int) - 1 ≤ gns (mkp 64 d)) = b) :
    Calls Try.prog 35 #[.agg (u8s 128 (fmF f g)), .pointer (some ⟨bp, 0, none⟩), .pointer (some ⟨bd, 0, none⟩)] w fun e w' => e = .returned (.bool b) ∧ Below w.heap.size w w' := by
  have hcp := hc.1
  have hbp : bp < w.heap.size := block_lt_of_cell hcp
  have hbd := hc.2.lt
  have hb := below_new w (.cells (u8s 128 (fmF f g)) 30)
  have hD := hc.2.keep hb
  have hA := Blk.new w (u8s 128 (fmF f g)) 30
  have hcp2 : (w.alloc (.cells (u8s 128 (fmF f g)) 30)).cell? ⟨bp, 0, none⟩ = some (.int .i64 p) := cell_below hcp hb
  have hdH := Lib.hid hd
  have hfH := Lib.hid hf
  have hgH := Lib.hid hg
  have hbH := Lib.hid hbb
  clear hc hcp hd hf hg hbb
  go_enter Try.func35, Try.ntmps35
  go_upto_region 1 with (fail)
  refine gen_guard (w := _) (by kernel_rfl) (by kernel_rfl) (by kernel_rfl)
      (fun i => ([fun zv _ => zv = .int .i64 p, fun zv _ => zv = .agg (u8s 64 d), fun v w => ∃ vd, v = .agg #[.int .i64 p, vd] ∧ IsRow w vd (mkp 64 d), fun zv _ => zv = .agg (u8s 128 (fmF f g)), fun v w => ∃ va vb, v = .agg #[va, vb] ∧ IsRow w va (mkp 64 f) ∧ IsRow w vb (mkp 64 g), fun zv _ => zv = .bool b, fun zv _ => zv = .bool b] : List (Value → World → Prop)).getD i (fun _ _ => True))
      (fun w' => Blk w' (bd) (u8s 64 d) 27 ∧ Blk w' (w.heap.size) (u8s 128 (fmF f g)) 30 ∧ True) ⟨hD.drew, hA.drew, trivial⟩ (fun w1 w2 h hb => ⟨h.1.keep hb, h.2.1.keep hb, trivial⟩) ?_ ?_ ?_
  · intro i v w1 w2 h hb
    rcases i with _|_|_|_|_|_|_|i
    · exact h
    · exact h
    · obtain ⟨vd, e, h1⟩ := h; exact ⟨vd, e, h1.below hb⟩
    · exact h
    · obtain ⟨va, vb, e, h1, h2⟩ := h; exact ⟨va, vb, e, h1.below hb, h2.below hb⟩
    · exact h
    · exact h
    · exact h
  · intro i o ho a w2 hBl hSx hrd hpar
    rcases i with _|_|_|_|_|_|_|i
    · obtain rfl := Option.some.inj ho
      refine .inl ⟨rfl, ?_⟩
      exact wpv_of (wp_load_cell 2 _ rfl _ (hpar 1 (.pointer (some ⟨bp, 0, none⟩)) (by kernel_rfl) (by kernel_rfl)) .i64 uInt _ (cell_below hcp2 hBl)) (fun _ _ => rfl)
    · obtain rfl := Option.some.inj ho
      refine .inl ⟨rfl, ?_⟩
      exact wpv_of (wp_loadB 27 _ rfl _ (hpar 2 (.pointer (some ⟨bd, 0, none⟩)) (by kernel_rfl) (by kernel_rfl)) _ _ hSx.1 _ _ uPoly sPoly) (fun _ _ => rfl)
    · obtain rfl := Option.some.inj ho
      refine .inl ⟨rfl, ?_⟩
      have e5 : a.eval (.tmp 5) = .int .i64 p := hrd 0 _ 5 rfl rfl (by kernel_rfl) (by kernel_rfl)
      have e6 : a.eval (.tmp 6) = .agg (u8s 64 d) := hrd 1 _ 6 rfl rfl (by kernel_rfl) (by kernel_rfl)
      exact wpv_call 14 [.tmp 5, .tmp 6] _ rfl [.int .i64 p, .agg (u8s 64 d)] (by simp only [List.map_cons, List.map_nil, e5, e6]) Try.call14 ((curveOf_any p d w2 hdH.out).mono fun _ _ ⟨vd, h1, h2, h3⟩ => ⟨_, h1, ⟨vd, rfl, h2⟩, h3⟩)
    · obtain rfl := Option.some.inj ho
      refine .inl ⟨rfl, ?_⟩
      exact wpv_of (wp_loadS 30 _ rfl _ (hpar 3 (.pointer (some ⟨w.heap.size, 0, none⟩)) (by kernel_rfl) (by kernel_rfl)) _ _ hSx.2.1 tForm sForm) (fun _ _ => rfl)
    · obtain rfl := Option.some.inj ho
      refine .inl ⟨rfl, ?_⟩
      have e8 : a.eval (.tmp 8) = .agg (u8s 128 (fmF f g)) := hrd 3 _ 8 rfl rfl (by kernel_rfl) (by kernel_rfl)
      exact wpv_call 16 [.tmp 8] _ rfl [.agg (u8s 128 (fmF f g))] (by simp only [List.map_cons, List.map_nil, e8]) Try.call16 ((formOf_any f g w2 hfH.out hgH.out).mono fun _ _ ⟨va, vb, h1, h2, h3, h4⟩ => ⟨_, h1, ⟨va, vb, rfl, h2, h3⟩, h4⟩)
    · obtain rfl := Option.some.inj ho
      refine .inl ⟨rfl, ?_⟩
      have h7 : (fun v w => ∃ vd, v = .agg #[.int .i64 p, vd] ∧ IsRow w vd (mkp 64 d)) (a.eval (.tmp 7)) w2 := hrd 2 _ 7 rfl rfl (by kernel_rfl) (by kernel_rfl)
      generalize e7 : a.eval (.tmp 7) = v7 at h7
      have h9 : (fun v w => ∃ va vb, v = .agg #[va, vb] ∧ IsRow w va (mkp 64 f) ∧ IsRow w vb (mkp 64 g)) (a.eval (.tmp 9)) w2 := hrd 4 _ 9 rfl rfl (by kernel_rfl) (by kernel_rfl)
      generalize e9 : a.eval (.tmp 9) = v9 at h9
      obtain ⟨vd, rfl, hr1⟩ := h7
      obtain ⟨va, vb, rfl, hr2, hr3⟩ := h9
      exact wpv_call 36 [.tmp 7, .tmp 9] _ rfl [.agg #[.int .i64 p, vd], .agg #[va, vb]] (by simp only [List.map_cons, List.map_nil, e7, e9]) Try.call36 ((isReduced_any vd va vb p _ _ b w2 hr1 hr2 (mkp_length _ _) hbH.out).mono fun _ _ ⟨h1, h2⟩ => ⟨_, h1, rfl, h2⟩)
    · obtain rfl := Option.some.inj ho
      refine .inl ⟨rfl, ?_⟩
      have e10 : a.eval (.tmp 10) = .bool b := hrd 5 _ 10 rfl rfl (by kernel_rfl) (by kernel_rfl)
      exact wpv_of (wp_assign _ _ rfl e10) (fun _ _ => rfl)
    · simp at ho
  intro vals xE hBx hSx hc0
  have e0 : vals 0 = .int .i64 p := hc0 0 (by simp)
  have e1 : vals 1 = .agg (u8s 64 d) := hc0 1 (by simp)
  have cE2 : (fun v w => ∃ vd, v = .agg #[.int .i64 p, vd] ∧ IsRow w vd (mkp 64 d)) (vals 2) xE := hc0 2 (by simp)
  generalize ev2 : vals 2 = uE2 at cE2
  have e3 : vals 3 = .agg (u8s 128 (fmF f g)) := hc0 3 (by simp)
  have cE4 : (fun v w => ∃ va vb, v = .agg #[va, vb] ∧ IsRow w va (mkp 64 f) ∧ IsRow w vb (mkp 64 g)) (vals 4) xE := hc0 4 (by simp)
  generalize ev4 : vals 4 = uE4 at cE4
  have e5 : vals 5 = .bool b := hc0 5 (by simp)
  have e6 : vals 6 = .bool b := hc0 6 (by simp)
  simp only [List.length_cons, List.length_nil, Nat.zero_add, Nat.reduceAdd, List.replicate, putAll, if_true, Act.put, List.setIfInBounds_toArray, List.set_cons_zero, List.set_cons_succ, e0, e1, ev2, e3, ev4, e5, e6]
  replace hD := hSx.1
  replace hA := hSx.2.1
  replace hb := below_step hb hBx
  clear hc0 hSx e0 e1 ev2 e3 ev4 e5 e6
  go_wp2_with fail
  go_ret
  exact ⟨rfl, hb⟩

def areAllFF (bf : Nat) : Value := .func (.func 65) #[] #[.pointer (some ⟨bf, 0, none⟩)]
theorem iFunc : (Try.prog.info? 62).map (·.size) = some 1 := by kernel_rfl

def codeFF1 (bp bd : Nat) : Value := .func (.func 33) #[] #[.pointer (some ⟨bp, 0, none⟩), .pointer (some ⟨bd, 0, none⟩)]
set_option maxHeartbeats 400000 in
theorem areAllF1_1 (G d : Nat → Int) (p : Int) (bp bd bf : Nat) (b : Bool) (w : World) (hc : CapOk w bp bd p d) (hfc : w.cell? ⟨bf, 0, none⟩ = some (codeFF1 bp bd))
    (hH : ∀ w', CapOk w' bp bd p d → Calls Try.prog 33 #[.agg (u8s 128 G), .pointer (some ⟨bp, 0, none⟩), .pointer (some ⟨bd, 0, none⟩)] w' fun e w2 => e = .returned (.bool b) ∧ Below w'.heap.size w' w2) :
    Calls Try.prog 65 #[.agg (u8s 128 G), .pointer (some ⟨bf, 0, none⟩)] w fun e w' => e = .returned (.bool (!b)) ∧ Below w.heap.size w w' := by
  have hb0 := below_new w (.cells (u8s 128 G) 30)
  have hc2 := hc.below hb0
  have H1 := Lib.hid (hH _ hc2)
  have hfc2 := cell_below hfc hb0
  have hA := Blk.new w (u8s 128 G) 30
  have hlt : bf < w.heap.size := block_lt_of_cell hfc
  unfold codeFF1 at hfc2
  clear hc hfc hH hc2
  go_enter Try.func65, Try.ntmps65
  go_wp2_with ((with_reducible refine wpl_guard ?_); first | (refine wpl_load_str rfl 30 _ rfl _ rfl _ _ hA tForm sForm ?_))
  refine H1.out.mono ?_
  rintro e u1 ⟨rfl, hn⟩
  go_wp2_with fail
  go_ret
  exact ⟨rfl, below_step hb0 hn⟩
set_option maxHeartbeats 400000 in
theorem indexF1 (F d : Nat → Int) (T : Nat → Bool) (n cap : Nat) (oa : Option Addr) (p : Int) (bp bd bf : Nat) (w : World) (hn : n ≤ 1000000000)
    (hC : CellsAt w oa (n * 128) (fun j => .int .u8 (F j))) (hc : CapOk w bp bd p d) (hfc : w.cell? ⟨bf, 0, none⟩ = some (codeFF1 bp bd)) (hH : ∀ k, k < n → ∀ w', CapOk w' bp bd p d → Calls Try.prog 33 #[.agg (u8s 128 (fun q => F (k * 128 + q))), .pointer (some ⟨bp, 0, none⟩), .pointer (some ⟨bd, 0, none⟩)] w' fun e w2 => e = .returned (.bool (T k)) ∧ Below w'.heap.size w' w2) :
    Calls Try.prog 86 #[.slice oa n cap, areAllFF bf] w (IdxPostB (∀ k, k < n → T k = true) w) := by
  have hcH := Lib.hid hc
  have hfcH := Lib.hid hfc
  have hCH := Lib.hid hC
  have hHH := Lib.hid hH
  clear hfc hC hc hH
  unfold areAllFF
  go_enter Try.func86, Try.ntmps86
  go_wp2
  go_loopw [8] (fun i wr => ∃ k : Nat, k ≤ n ∧ i = .int .i64 k ∧ (∀ j, j < k → T j = true) ∧ Below w.heap.size w wr) (fun i _ => n - (intOf i).toNat)
  case atStart => exact ⟨0, by omega, rfl, fun j hj => by omega, Below.refl _ _⟩
  case round =>
    obtain ⟨k, hk, rfl, hall, hb⟩ := hrel
    have hallH := Lib.hid hall; clear hall
    by_cases hlt : k < n
    · obtain ⟨g, o, rfl, hcell⟩ := hCH.out (by omega)
      have hcellr : ∀ q, q < 128 → wr.cell? ⟨g, o + k * 128 + q, none⟩ = some (.int .u8 (F (k * 128 + q))) := fun q hq => by
        have := cell_below (hcell (k * 128 + q) (by omega)) hb
        rwa [← Nat.add_assoc] at this
      have H1 := Lib.hid (areAllF1_1 (fun q => F (k * 128 + q)) d p bp bd bf (T k) wr (hcH.out.below hb) (cell_below hfcH.out hb) (hHH.out k hlt))
      have hcellH := Lib.hid hcellr
      obtain ⟨b, hbb⟩ : ∃ b, T k = b := ⟨_, rfl⟩
      rw [hbb] at H1
      have hbbH := Lib.hid hbb
      have hltH := hlt
      clear hcellr hcell hbb
      cases b
      · go_wp2_with ((with_reducible refine wpl_guard ?_); first | (refine wpl_load_mid_str rfl 30 _ rfl g (o + k * 128) rfl 128 _ hcellH.out tForm sForm ?_))
        refine H1.out.mono ?_
        rintro e u1 ⟨rfl, hb1⟩
        go_wp2_with fail
        go_ret
        refine ⟨k, rfl, fun hg => ?_, fun _ => by omega, hb.trans (hb1.mono hb.size)⟩
        have := hg k hltH
        have h2 := hbbH.out
        rw [this] at h2; cases h2
      · go_wp2_with ((with_reducible refine wpl_guard ?_); first | (refine wpl_load_mid_str rfl 30 _ rfl g (o + k * 128) rfl 128 _ hcellH.out tForm sForm ?_))
        refine H1.out.mono ?_
        rintro e u1 ⟨rfl, hb1⟩
        go_wp2_with fail
        go_roundw
        case rel =>
          refine ⟨k + 1, by omega, by go_num, fun j hj => ?_, hb.trans (hb1.mono hb.size)⟩
          by_cases e1 : j = k
          · subst e1; exact hbbH.out
          · exact hallH.out j (by omega)
        case measure => simp [intOf]; omega
    · obtain rfl : k = n := by omega
      go_wp2_with fail
      go_ret
      exact ⟨-1, rfl, fun _ => rfl, fun hg => absurd hallH.out hg, hb⟩
theorem containsF1 (F d : Nat → Int) (T : Nat → Bool) (n cap : Nat) (oa : Option Addr) (p : Int) (bp bd bf : Nat) (w : World) (hn : n ≤ 1000000000)
    (hC : CellsAt w oa (n * 128) (fun j => .int .u8 (F j))) (hc : CapOk w bp bd p d) (hfc : w.cell? ⟨bf, 0, none⟩ = some (codeFF1 bp bd)) (hH : ∀ k, k < n → ∀ w', CapOk w' bp bd p d → Calls Try.prog 33 #[.agg (u8s 128 (fun q => F (k * 128 + q))), .pointer (some ⟨bp, 0, none⟩), .pointer (some ⟨bd, 0, none⟩)] w' fun e w2 => e = .returned (.bool (T k)) ∧ Below w'.heap.size w' w2) (b : Bool) (hb : (∀ k, k < n → T k = true) ↔ b = true) :
    Calls Try.prog 64 #[.slice oa n cap, areAllFF bf] w fun e w' => e = .returned (.bool (!b)) ∧ Below w.heap.size w w' := by
  have h1 := indexF1 F d T n cap oa p bp bd bf w hn hC hc hfc hH
  have h1 : Calls Try.prog 86 #[.slice oa n cap, areAllFF bf] w fun e w' => ∃ r : Int, e = .returned (.int .i64 r) ∧ decide (0 ≤ r) = !b ∧ Below w.heap.size w w' := by
    refine h1.mono ?_
    rintro e w' ⟨r, rfl, h2, h3, h4⟩
    refine ⟨r, rfl, ?_, h4⟩
    cases b
    · have := h3 (fun h => by simpa using hb.1 h); simp; omega
    · have := h2 (hb.2 rfl); simp; omega
  have H1 := Lib.hid h1; clear h1 hC hc hfc hb hH
  unfold areAllFF at *
  go_enter Try.func64, Try.ntmps64
  go_wp2_with (go_at_call 86; refine H1.out.mono ?_; rintro e w' ⟨r, rfl, hr, hb1⟩)
  go_ret
  exact ⟨by simp, hb1⟩
set_option maxHeartbeats 400000 in
theorem areAllF1 (F d : Nat → Int) (T : Nat → Bool) (n cap : Nat) (oa : Option Addr) (p : Int) (bp bd : Nat) (w : World) (hn : n ≤ 1000000000)
    (hC : CellsAt w oa (n * 128) (fun j => .int .u8 (F j))) (hc : CapOk w bp bd p d) (hH : ∀ k, k < n → ∀ w', CapOk w' bp bd p d → Calls Try.prog 33 #[.agg (u8s 128 (fun q => F (k * 128 + q))), .pointer (some ⟨bp, 0, none⟩), .pointer (some ⟨bd, 0, none⟩)] w' fun e w2 => e = .returned (.bool (T k)) ∧ Below w'.heap.size w' w2) (b : Bool) (hb : (∀ k, k < n → T k = true) ↔ b = true) :
    Calls Try.prog 32 #[.slice oa n cap, codeFF1 bp bd] w fun e w' => e = .returned (.bool b) ∧ Below w.heap.size w w' := by
  have hb0 := below_new w (.cells #[codeFF1 bp bd] 62)
  have hf2 : (w.alloc (.cells #[codeFF1 bp bd] 62)).cell? ⟨w.heap.size, 0, none⟩ = some (codeFF1 bp bd) := by
    rw [World.cell?_alloc_at _ _ _ _ rfl]; rfl
  have h1 := containsF1 F d T n cap oa p bp bd w.heap.size _ hn (hC.below hb0) (hc.below hb0) hf2 hH b hb
  have H1 := Lib.hid h1; clear h1 hC hc hb hf2 hH
  unfold codeFF1 at *
  go_enter Try.func32, Try.ntmps32
  go_wp2_with (go_at_call 64; refine H1.out.mono ?_; rintro e w' ⟨rfl, hb1⟩)
  go_ret
  exact ⟨by simp, below_step hb0 hb1⟩

def codeFF2 (bp bd : Nat) : Value := .func (.func 35) #[] #[.pointer (some ⟨bp, 0, none⟩), .pointer (some ⟨bd, 0, none⟩)]
set_option maxHeartbeats 400000 in
theorem areAllF1_2 (G d : Nat → Int) (p : Int) (bp bd bf : Nat) (b : Bool) (w : World) (hc : CapOk w bp bd p d) (hfc : w.cell? ⟨bf, 0, none⟩ = some (codeFF2 bp bd))
    (hH : ∀ w', CapOk w' bp bd p d → Calls Try.prog 35 #[.agg (u8s 128 G), .pointer (some ⟨bp, 0, none⟩), .pointer (some ⟨bd, 0, none⟩)] w' fun e w2 => e = .returned (.bool b) ∧ Below w'.heap.size w' w2) :
    Calls Try.prog 65 #[.agg (u8s 128 G), .pointer (some ⟨bf, 0, none⟩)] w fun e w' => e = .returned (.bool (!b)) ∧ Below w.heap.size w w' := by
  have hb0 := below_new w (.cells (u8s 128 G) 30)
  have hc2 := hc.below hb0
  have H1 := Lib.hid (hH _ hc2)
  have hfc2 := cell_below hfc hb0
  have hA := Blk.new w (u8s 128 G) 30
  have hlt : bf < w.heap.size := block_lt_of_cell hfc
  unfold codeFF2 at hfc2
  clear hc hfc hH hc2
  go_enter Try.func65, Try.ntmps65
  go_wp2_with ((with_reducible refine wpl_guard ?_); first | (refine wpl_load_str rfl 30 _ rfl _ rfl _ _ hA tForm sForm ?_))
  refine H1.out.mono ?_
  rintro e u1 ⟨rfl, hn⟩
  go_wp2_with fail
  go_ret
  exact ⟨rfl, below_step hb0 hn⟩
set_option maxHeartbeats 400000 in
theorem indexF2 (F d : Nat → Int) (T : Nat → Bool) (n cap : Nat) (oa : Option Addr) (p : Int) (bp bd bf : Nat) (w : World) (hn : n ≤ 1000000000)
    (hC : CellsAt w oa (n * 128) (fun j => .int .u8 (F j))) (hc : CapOk w bp bd p d) (hfc : w.cell? ⟨bf, 0, none⟩ = some (codeFF2 bp bd)) (hH : ∀ k, k < n → ∀ w', CapOk w' bp bd p d → Calls Try.prog 35 #[.agg (u8s 128 (fun q => F (k * 128 + q))), .pointer (some ⟨bp, 0, none⟩), .pointer (some ⟨bd, 0, none⟩)] w' fun e w2 => e = .returned (.bool (T k)) ∧ Below w'.heap.size w' w2) :
    Calls Try.prog 86 #[.slice oa n cap, areAllFF bf] w (IdxPostB (∀ k, k < n → T k = true) w) := by
  have hcH := Lib.hid hc
  have hfcH := Lib.hid hfc
  have hCH := Lib.hid hC
  have hHH := Lib.hid hH
  clear hfc hC hc hH
  unfold areAllFF
  go_enter Try.func86, Try.ntmps86
  go_wp2
  go_loopw [8] (fun i wr => ∃ k : Nat, k ≤ n ∧ i = .int .i64 k ∧ (∀ j, j < k → T j = true) ∧ Below w.heap.size w wr) (fun i _ => n - (intOf i).toNat)
  case atStart => exact ⟨0, by omega, rfl, fun j hj => by omega, Below.refl _ _⟩
  case round =>
    obtain ⟨k, hk, rfl, hall, hb⟩ := hrel
    have hallH := Lib.hid hall; clear hall
    by_cases hlt : k < n
    · obtain ⟨g, o, rfl, hcell⟩ := hCH.out (by omega)
      have hcellr : ∀ q, q < 128 → wr.cell? ⟨g, o + k * 128 + q, none⟩ = some (.int .u8 (F (k * 128 + q))) := fun q hq => by
        have := cell_below (hcell (k * 128 + q) (by omega)) hb
        rwa [← Nat.add_assoc] at this
      have H1 := Lib.hid (areAllF1_2 (fun q => F (k * 128 + q)) d p bp bd bf (T k) wr (hcH.out.below hb) (cell_below hfcH.out hb) (hHH.out k hlt))
      have hcellH := Lib.hid hcellr
      obtain ⟨b, hbb⟩ : ∃ b, T k = b := ⟨_, rfl⟩
      rw [hbb] at H1
      have hbbH := Lib.hid hbb
      have hltH := hlt
      clear hcellr hcell hbb
      cases b
      · go_wp2_with ((with_reducible refine wpl_guard ?_); first | (refine wpl_load_mid_str rfl 30 _ rfl g (o + k * 128) rfl 128 _ hcellH.out tForm sForm ?_))
        refine H1.out.mono ?_
        rintro e u1 ⟨rfl, hb1⟩
        go_wp2_with fail
        go_ret
        refine ⟨k, rfl, fun hg => ?_, fun _ => by omega, hb.trans (hb1.mono hb.size)⟩
        have := hg k hltH
        have h2 := hbbH.out
        rw [this] at h2; cases h2
      · go_wp2_with ((with_reducible refine wpl_guard ?_); first | (refine wpl_load_mid_str rfl 30 _ rfl g (o + k * 128) rfl 128 _ hcellH.out tForm sForm ?_))
        refine H1.out.mono ?_
        rintro e u1 ⟨rfl, hb1⟩
        go_wp2_with fail
        go_roundw
        case rel =>
          refine ⟨k + 1, by omega, by go_num, fun j hj => ?_, hb.trans (hb1.mono hb.size)⟩
          by_cases e1 : j = k
          · subst e1; exact hbbH.out
          · exact hallH.out j (by omega)
        case measure => simp [intOf]; omega
    · obtain rfl : k = n := by omega
      go_wp2_with fail
      go_ret
      exact ⟨-1, rfl, fun _ => rfl, fun hg => absurd hallH.out hg, hb⟩
theorem containsF2 (F d : Nat → Int) (T : Nat → Bool) (n cap : Nat) (oa : Option Addr) (p : Int) (bp bd bf : Nat) (w : World) (hn : n ≤ 1000000000)
    (hC : CellsAt w oa (n * 128) (fun j => .int .u8 (F j))) (hc : CapOk w bp bd p d) (hfc : w.cell? ⟨bf, 0, none⟩ = some (codeFF2 bp bd)) (hH : ∀ k, k < n → ∀ w', CapOk w' bp bd p d → Calls Try.prog 35 #[.agg (u8s 128 (fun q => F (k * 128 + q))), .pointer (some ⟨bp, 0, none⟩), .pointer (some ⟨bd, 0, none⟩)] w' fun e w2 => e = .returned (.bool (T k)) ∧ Below w'.heap.size w' w2) (b : Bool) (hb : (∀ k, k < n → T k = true) ↔ b = true) :
    Calls Try.prog 64 #[.slice oa n cap, areAllFF bf] w fun e w' => e = .returned (.bool (!b)) ∧ Below w.heap.size w w' := by
  have h1 := indexF2 F d T n cap oa p bp bd bf w hn hC hc hfc hH
  have h1 : Calls Try.prog 86 #[.slice oa n cap, areAllFF bf] w fun e w' => ∃ r : Int, e = .returned (.int .i64 r) ∧ decide (0 ≤ r) = !b ∧ Below w.heap.size w w' := by
    refine h1.mono ?_
    rintro e w' ⟨r, rfl, h2, h3, h4⟩
    refine ⟨r, rfl, ?_, h4⟩
    cases b
    · have := h3 (fun h => by simpa using hb.1 h); simp; omega
    · have := h2 (hb.2 rfl); simp; omega
  have H1 := Lib.hid h1; clear h1 hC hc hfc hb hH
  unfold areAllFF at *
  go_enter Try.func64, Try.ntmps64
  go_wp2_with (go_at_call 86; refine H1.out.mono ?_; rintro e w' ⟨r, rfl, hr, hb1⟩)
  go_ret
  exact ⟨by simp, hb1⟩
set_option maxHeartbeats 400000 in
theorem areAllF2 (F d : Nat → Int) (T : Nat → Bool) (n cap : Nat) (oa : Option Addr) (p : Int) (bp bd : Nat) (w : World) (hn : n ≤ 1000000000)
    (hC : CellsAt w oa (n * 128) (fun j => .int .u8 (F j))) (hc : CapOk w bp bd p d) (hH : ∀ k, k < n → ∀ w', CapOk w' bp bd p d → Calls Try.prog 35 #[.agg (u8s 128 (fun q => F (k * 128 + q))), .pointer (some ⟨bp, 0, none⟩), .pointer (some ⟨bd, 0, none⟩)] w' fun e w2 => e = .returned (.bool (T k)) ∧ Below w'.heap.size w' w2) (b : Bool) (hb : (∀ k, k < n → T k = true) ↔ b = true) :
    Calls Try.prog 32 #[.slice oa n cap, codeFF2 bp bd] w fun e w' => e = .returned (.bool b) ∧ Below w.heap.size w w' := by
  have hb0 := below_new w (.cells #[codeFF2 bp bd] 62)
  have hf2 : (w.alloc (.cells #[codeFF2 bp bd] 62)).cell? ⟨w.heap.size, 0, none⟩ = some (codeFF2 bp bd) := by
    rw [World.cell?_alloc_at _ _ _ _ rfl]; rfl
  have h1 := containsF2 F d T n cap oa p bp bd w.heap.size _ hn (hC.below hb0) (hc.below hb0) hf2 hH b hb
  have H1 := Lib.hid h1; clear h1 hC hc hb hf2 hH
  unfold codeFF2 at *
  go_enter Try.func32, Try.ntmps32
  go_wp2_with (go_at_call 64; refine H1.out.mono ?_; rintro e w' ⟨rfl, hb1⟩)
  go_ret
  exact ⟨by simp, below_step hb0 hb1⟩

/-- The code of forms. -/
def codeF (b1 bf r m br : Bool) : Int := if b1 && bf then (if r then (if m && !br then 5 else 0) else 2) else 1
/-- What is told of a list of forms. -/
structure FrmT (p : Int) (d F : Nat → Int) (n : Nat) (b1 bf br : Bool) (T1 T2 : Nat → Bool) : Prop where
  hd : By d
  hF : By F
  disc : Disc p d ↔ b1 = true
  t1 : ∀ k, k < n → (FormOk p (mkp 64 d) (fA F k) (fB F k) ↔ T1 k = true)
  t2 : ∀ k, k < n → decide (((mkp 64 (fA F k)).length : Int) - 1 ≤ gns (mkp 64 d)) = T2 k
  all1 : (∀ k, k < n → T1 k = true) ↔ bf = true
  all2 : (∀ k, k < n → T2 k = true) ↔ br = true
theorem dec_all (n : Nat) (T : Nat → Bool) : ∃ b : Bool, (∀ k, k < n → T k = true) ↔ b = true := dec_true _
theorem dec_fun (Pp : Nat → Prop) : ∃ T : Nat → Bool, ∀ k, Pp k ↔ T k = true := by
  refine ⟨fun k => @decide _ (Classical.propDecidable (Pp k)), fun k => ?_⟩
  by_cases h : Pp k
  · simp [h]
  · simp [h]

set_option maxRecDepth 20000 in
set_option maxHeartbeats 2000000 in
theorem formCode_any (d F : Nat → Int) (p : Int) (n g : Nat) (TT : TypeId) (b1 bf br r m : Bool) (T1 T2 : Nat → Bool) (w : World) (hn : n ≤ 1000) (hT : FrmT p d F n b1 bf br T1 T2) (hB : Blk w g (u8s (n * 128) F) TT) :
    Calls Try.prog 13 #[.int .i64 p, .agg (u8s 64 d), .bool r, .bool m, .slice (some ⟨g, 0, none⟩) n n] w fun e w' => e = .returned (.int .i64 (codeF b1 bf r m br)) ∧ Below w.heap.size w w' := by
  have hn2 : n ≤ 1000000000 := by omega
  have hb0 := boxes2 w #[.int .i64 p] (u8s 64 d) 2 27
  obtain ⟨hb, hP, hD⟩ := hb0
  have hcap : CapOk ((w.alloc (.cells #[.int .i64 p] 2)).alloc (.cells (u8s 64 d) 27)) w.heap.size (w.heap.size + 1) p d := ⟨by rw [hP.cell]; rfl, hD⟩
  have hC := (CellsAt.blk hB).below hb
  have k1 := Lib.hid (fun w => implDisc_any d p b1 w hT.hd hT.disc)
  have hk2 : b1 = true → ∀ w', CapOk w' w.heap.size (w.heap.size + 1) p d → CellsAt w' (some ⟨g, 0, none⟩) (n * 128) (fun j => .int .u8 (F j)) → Calls Try.prog 32 #[.slice (some ⟨g, 0, none⟩) n n, codeFF1 w.heap.size (w.heap.size + 1)] w' fun e w2 => e = .returned (.bool bf) ∧ Below w'.heap.size w' w2 := fun hb1 w' hc' hC' =>
    areAllF1 F d T1 n n _ p _ _ w' hn2 hC' hc' (fun k hk w2 hc2 => by rw [fAB]; exact formCode1_any d _ _ p _ _ (T1 k) w2 hT.hd (fun j => hT.hF _) (fun j => hT.hF _) hc2 (by have := hT.disc; rw [hb1] at this; exact this) (hT.t1 k hk)) bf hT.all1
  have hk3 : ∀ w', CapOk w' w.heap.size (w.heap.size + 1) p d → CellsAt w' (some ⟨g, 0, none⟩) (n * 128) (fun j => .int .u8 (F j)) → Calls Try.prog 32 #[.slice (some ⟨g, 0, none⟩) n n, codeFF2 w.heap.size (w.heap.size + 1)] w' fun e w2 => e = .returned (.bool br) ∧ Below w'.heap.size w' w2 := fun w' hc' hC' =>
    areAllF2 F d T2 n n _ p _ _ w' hn2 hC' hc' (fun k hk w2 hc2 => by rw [fAB]; exact formCode2_any d _ _ p _ _ (T2 k) w2 hT.hd (fun j => hT.hF _) (fun j => hT.hF _) hc2 (hT.t2 k hk)) br hT.all2
  have k2 := Lib.hid hk2
  have k3 := Lib.hid hk3
  have kC := Lib.hid hC
  have kcap := Lib.hid hcap
  have c0 : ((w.alloc (.cells #[.int .i64 p] 2)).alloc (.cells (u8s 64 d) 27)).cell? ⟨w.heap.size, 0, none⟩ = some (.int .i64 p) := hcap.1
  clear hk2 hk3 hC hcap hT hB hP
  go_enter Try.func13, Try.ntmps13
  go_wp2_with ((with_reducible refine wpl_guard ?_); first | (refine wpl_load_arr rfl 27 _ rfl _ rfl _ _ hD _ _ uPoly sPoly ?_))
  refine (k1.out _).mono ?_
  rintro e u1 ⟨rfl, hn⟩
  replace kC := Lib.hid (kC.out.below hn)
  replace kcap := Lib.hid (kcap.out.below hn)
  replace hb := below_step hb hn
  clear hn hD c0
  cases b1
  · go_wp2_with fail
    go_ret
    exact ⟨rfl, hb⟩
  go_wp2_with fail
  refine (k2.out (by first | rfl | trivial) _ kcap.out kC.out).mono ?_
  rintro e u2 ⟨rfl, hn⟩
  replace kC := Lib.hid (kC.out.below hn)
  replace kcap := Lib.hid (kcap.out.below hn)
  replace hb := below_step hb hn
  clear hn
  cases bf
  · go_wp2_with fail
    go_ret
    exact ⟨rfl, hb⟩
  cases r
  · go_wp2_with fail
    go_ret
    exact ⟨rfl, hb⟩
  cases m
  · go_wp2_with fail
    go_ret
    exact ⟨rfl, hb⟩
  go_wp2_with fail
  refine (k3.out _ kcap.out kC.out).mono ?_
  rintro e u3 ⟨rfl, hn⟩
  replace hb := below_step hb hn
  clear hn
  cases br
  · go_wp2_with fail
    go_ret
    exact ⟨rfl, hb⟩
  go_wp2_with fail
  go_ret
  exact ⟨rfl, hb⟩
end Go.Proofs.Ytohgjihccjnheab
