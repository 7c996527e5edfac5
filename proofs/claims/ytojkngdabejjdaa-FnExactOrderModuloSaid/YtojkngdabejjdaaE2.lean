/- Walks: the codes of polynomials with a modulus. -/
import Derived.Test.YtojkngdabejjdaaE1
set_option linter.unusedVariables false
set_option linter.unusedSimpArgs false
namespace Go.Proofs.Ytojkngdabejjdaa
open Go.RowKit

theorem Mon_range {m : List Int} (c : Bool) (hc : decide (Mon m) = c) (h1 : cf m (m.length - 1) = 1) : decide (1 ≤ (m.length : Int) - 1 ∧ (m.length : Int) - 1 ≤ 5) = c := by
  rw [← hc]; apply decide_eq_decide.2
  constructor
  · intro h; exact ⟨h1, by omega, by omega⟩
  · intro h; have := h.2; omega

set_option maxRecDepth 20000 in
set_option maxHeartbeats 1000000 in
theorem l02Modulus_any (f F : Nat → Int) (n cap : Nat) (oa : Option Addr) (p : Int) (w : World) (hf : By f) (hF : ∀ j, j < n * 64 → 0 ≤ F j ∧ F j ≤ 255) (hn : n ≤ 1000000000)
    (hC : CellsAt w oa (n * 64) (fun j => .int .u8 (F j))) (b c : Bool) (hb : (Good p [f] ∧ AllP n F p) ↔ b = true) (hc : decide (Mon (mkp 64 f)) = c) :
    Calls Try.prog 7 #[.int .i64 p, .agg (u8s 64 f), .slice oa n cap] w fun e w' => e = .returned (.int .i64 (modC b c)) ∧ Below w.heap.size w w' := by
  have hB := Blk.new w (u8s 64 f) 25
  have hb0 := below_new w (.cells (u8s 64 f) 25)
  obtain ⟨q, hq⟩ := dec_true (Good p [f])
  obtain ⟨g, hg⟩ : ∃ g, decide (cf (mkp 64 f) ((mkp 64 f).length - 1) = 1) = g := ⟨_, rfl⟩
  have h1 := Lib.hid (fun (g : Nat) (T : TypeId) (w : World) (hB : Blk w g (u8s 64 (polysF [f])) T) => l01Code_lit [f] 1 64 rfl rfl (by omega) p g T w hB (by1 hf) q hq)
  have h2 := Lib.hid (fun (w' : World) (r : Bool) (hb2 : Below w.heap.size w w') (hr : (Pr p ∧ AllP n F p) ↔ r = true) => l01Code_any F n cap oa p w' hF hn (hC.below hb2) r hr)
  have h3 := Lib.hid (fun w => l01Monic_any f w hf g hg)
  have h4 := Lib.hid (fun w => l01Deg_any f w hf.on)
  have hfH := Lib.hid hf
  have hmr := Lib.hid (fun (h1 : cf (mkp 64 f) ((mkp 64 f).length - 1) = 1) => Mon_range c hc h1)
  have hmn := Lib.hid (fun (h1 : ¬ cf (mkp 64 f) ((mkp 64 f).length - 1) = 1) => show c = false by rw [← hc]; exact decide_eq_false fun h => h1 h.1)
  have hbH := Lib.hid hb
  have hqH := Lib.hid hq
  have hgH := Lib.hid hg
  clear hf hF hC hb hc hq hg
  generalize hL : (mkp 64 f).length = L at *
  clear hL
  cases q
  · have hb2 : b = false := by
      cases b
      · rfl
      · have := hqH.out.1 (hbH.out.2 rfl).1; cases this
    subst hb2
    go_enter Try.func7, Try.ntmps7
    go_wp2_with (first | (refine wpl_load_arr rfl 25 _ rfl _ rfl _ _ hB _ _ uPoly sPoly ?_) | (refine wpl_buildSlice_polys rfl 38 25 1 _ rfl Try.underlying38 sPoly zPoly [f] rfl (by decide) (by decide) rfl ?_))
    refine (h1.out _ _ _ (Blk.newAt (by simp) _ _)).mono ?_
    rintro e w1 ⟨rfl, hn⟩
    go_wp2_with fail
    go_ret
    exact ⟨rfl, below_step hb0 (below_step (below_new _ _) hn)⟩
  · have hr : (Pr p ∧ AllP n F p) ↔ b = true := by
      rw [← hbH.out]
      exact ⟨fun h => ⟨hqH.out.2 rfl, h.2⟩, fun h => ⟨h.1.1, h.2⟩⟩
    have hrH := Lib.hid hr
    clear hr
    go_enter Try.func7, Try.ntmps7
    go_wp2_with (first | (refine wpl_load_arr rfl 25 _ rfl _ rfl _ _ hB _ _ uPoly sPoly ?_) | (refine wpl_buildSlice_polys rfl 38 25 1 _ rfl Try.underlying38 sPoly zPoly [f] rfl (by decide) (by decide) rfl ?_))
    refine (h1.out _ _ _ (Blk.newAt (by simp) _ _)).mono ?_
    rintro e w1 ⟨rfl, hn⟩
    have hB1 := (hB.alloc _).keep hn
    replace hb0 := below_step hb0 (below_step (below_new _ _) hn)
    clear hB hn
    go_wp2_with fail
    refine (h2.out _ b hb0 hrH.out).mono ?_
    rintro e w2 ⟨rfl, hn⟩
    replace hB1 := hB1.keep hn
    replace hb0 := below_step hb0 hn
    clear hn h2 h1
    cases b
    · go_wp2_with fail
      go_ret
      exact ⟨rfl, hb0⟩
    · go_wp2_with ((with_reducible refine wpl_guard ?_); first | (refine wpl_load_arr rfl 25 _ rfl _ rfl _ _ hB1 _ _ uPoly sPoly ?_))
      refine (h3.out _).mono ?_
      rintro e w3 ⟨rfl, hn⟩
      replace hB1 := hB1.keep hn
      replace hb0 := below_step hb0 hn
      clear hn h3
      cases g
      · have hc2 := hmn.out (of_decide_eq_false hgH.out)
        subst hc2
        clear hmr hmn hgH
        go_wp2_with fail
        go_ret
        exact ⟨rfl, hb0⟩
      · have hcr := Lib.hid (hmr.out (of_decide_eq_true hgH.out))
        clear hmr hmn hgH
        go_wp2_with ((with_reducible refine wpl_guard ?_); first | (refine wpl_load_arr rfl 25 _ rfl _ rfl _ _ hB1 _ _ uPoly sPoly ?_))
        refine (h4.out _).mono ?_
        rintro e w4 ⟨rfl, hn⟩
        replace hb0 := below_step hb0 hn
        clear hn h4
        go_wp2_with fail
        refine (l01In_any _ _ _ _ c hcr.out).mono ?_
        rintro e w5 ⟨rfl, rfl⟩
        cases c
        · go_wp2_with fail
          go_ret
          exact ⟨rfl, hb0⟩
        · go_wp2_with fail
          go_ret
          exact ⟨rfl, hb0⟩

theorem Good_cons {p : Int} {f : Nat → Int} {fs : List (Nat → Int)} : Good p (f :: fs) ↔ Good p [f] ∧ AllP fs.length (polysF fs) p := by
  rw [AllP_polysF]
  unfold Good
  constructor
  · intro h; exact ⟨⟨h.1, fun g hg => h.2 g (by rw [List.mem_singleton.1 hg]; simp)⟩, fun g hg => h.2 g (List.mem_cons_of_mem _ hg)⟩
  · intro h; refine ⟨h.1.1, fun g hg => ?_⟩
    rcases List.mem_cons.1 hg with rfl | h2
    · exact h.1.2 _ (by simp)
    · exact h.2 g h2
theorem l02Modulus_lit (f : Nat → Int) (fs : List (Nat → Int)) (n N : Nat) (hn : fs.length = n) (hN : N = n * 64) (hn2 : n ≤ 1000) (p : Int) (g : Nat) (T : TypeId) (w : World) (hB : Blk w g (u8s N (polysF fs)) T)
    (hf : By f) (hfs : ∀ f ∈ fs, By f) (b c : Bool) (hb : Good p (f :: fs) ↔ b = true) (hc : decide (Mon (mkp 64 f)) = c) :
    Calls Try.prog 7 #[.int .i64 p, .agg (u8s 64 f), .slice (some ⟨g, 0, none⟩) n n] w fun e w' => e = .returned (.int .i64 (modC b c)) ∧ Below w.heap.size w w' :=
  l02Modulus_any f (polysF fs) n n _ p w hf (fun j _ => polysF_in fs hfs j) (by omega) (by subst hN; exact CellsAt.blk hB) b c (by rw [← hb, ← hn]; exact Good_cons.symm) hc
theorem l02Modulus_one (f : Nat → Int) (p : Int) (w : World) (hf : By f) (b c : Bool) (hb : Good p [f] ↔ b = true) (hc : decide (Mon (mkp 64 f)) = c) :
    Calls Try.prog 7 #[.int .i64 p, .agg (u8s 64 f), .slice none 0 0] w fun e w' => e = .returned (.int .i64 (modC b c)) ∧ Below w.heap.size w w' :=
  l02Modulus_any f (fun _ => 0) 0 0 none p w hf (fun j _ => by omega) (by omega) (fun h => absurd h (by omega)) b c (by rw [← hb]; exact ⟨fun h => h.1, fun h => ⟨h, fun j hj => absurd hj (by omega)⟩⟩) hc

theorem iPoly : (Try.prog.info? 25).map (fun i => (i.zero, i.size, i.bytes)) = some (some (.agg (u8s 64 fun _ => 0)), 64, 64) := by kernel_rfl
theorem polysF_snoc (fs : List (Nat → Int)) (f : Nat → Int) (j : Nat) : polysF (fs ++ [f]) j = if j < fs.length * 64 then polysF fs j else if j < (fs.length + 1) * 64 then f (j - fs.length * 64) else 0 := by
  unfold polysF
  by_cases h : j < fs.length * 64
  · rw [if_pos h, List.getD_eq_getElem?_getD, List.getD_eq_getElem?_getD, List.getElem?_append_left (by omega)]
  · rw [if_neg h, List.getD_eq_getElem?_getD]
    by_cases h2 : j < (fs.length + 1) * 64
    · rw [if_pos h2, show j / 64 = fs.length by omega, List.getElem?_append_right (Nat.le_refl _), Nat.sub_self, show j % 64 = j - fs.length * 64 by omega]; rfl
    · rw [if_neg h2, List.getElem?_eq_none (by simp; omega)]; rfl
/-- The cells of a list of polynomials with one more. -/
theorem polys_snoc_cells (fs : List (Nat → Int)) (f : Nat → Int) (n N : Nat) (hn : fs.length = n) (hN : N = n * 64) :
    ((List.range N).map fun j => Value.int .u8 (polysF fs j)) ++ (List.range 64).map (fun j => Value.int .u8 (f j)) = (List.range ((n + 1) * 64)).map fun j => Value.int .u8 (polysF (fs ++ [f]) j) := by
  subst hn hN
  apply List.ext_getElem?
  intro j
  rw [List.getElem?_append]
  simp only [List.length_map, List.length_range, List.getElem?_map]
  by_cases h : j < fs.length * 64
  · rw [if_pos h, List.getElem?_range h, List.getElem?_range (by omega)]
    simp only [Option.map_some]
    rw [polysF_snoc, if_pos h]
  · rw [if_neg h]
    by_cases h2 : j < (fs.length + 1) * 64
    · rw [List.getElem?_range (by omega), List.getElem?_range h2]
      simp only [Option.map_some]
      rw [polysF_snoc, if_neg h, if_pos h2]
    · rw [List.getElem?_eq_none (by simp; omega), List.getElem?_eq_none (by simp; omega)]; rfl
theorem Blk.grown {w w' : World} {k : Nat} {cs : Array Value} {t : TypeId} {row : Option Nat} (h : Blk w k cs t) (hg : w.grownBy w' row) (hne : some k ≠ row) : Blk w' k cs t := by
  unfold Blk; rw [hg.block k h.lt hne]; exact h
section
variable {P : Program} {ops : Array Oper} {rest : List Oper} {o : Oper} {a : Act} {w : World} {Q : Exit → Act → World → Prop}
/-- One element is appended; what of the memory is written. -/
theorem wpl_append_grow (hw : Region.wanted o (yielded ops a.tmps) = true) (s x : Operand) (t : TypeId) (hop : o.op = .call { callee := .builtin .append, args := #[s, x], argTypes := #[t, t] })
    (base e : Nat) (z : Value) (size bytes : Nat) (ht : P.underlying t = some (.slice e)) (hinfo : (P.info? e).map (fun i => (i.zero, i.size, i.bytes)) = some (some z, size, bytes))
    (hzs : z.cells.size = size) (hsz : 0 < size) (hby : bytes ≤ 1024)
    (v : Value) (n : Nat) (xs : List Value) (hs : a.eval s = v) (hown : w.ownsRow base e size v n xs)
    (ad : Addr) (m c : Nat) (hx : a.eval x = .slice (some ad) m c) (news : List Value) (hl : news.length = m * size) (hc : ∀ j u, news[j]? = some u → w.cell? (ad.add j) = some u) (h1 : ∀ u ∈ news, u.oneCell' = true)
    (hn : n + m ≤ 100000000000) (hbase : base ≤ w.heap.size)
    (h : ∀ v' w', w'.ownsRow base e size v' (n + m) (xs ++ news) → w.grownBy w' v.ownBlock → wpList P ops Q rest (a.put o.dst v') w') : wpList P ops Q (o :: rest) a w := by
  refine wpl_wanted hw fun K hK => ?_
  obtain ⟨i, hi, hz, hz1, hz2⟩ := info_parts hinfo
  have hb : (n + m) * bytes ≤ 140737488355328 := by
    have : (n + m) * bytes ≤ (n + m) * 1024 := Nat.mul_le_mul_left _ hby
    omega
  obtain ⟨v', w', hr, h2, h3, _⟩ := run_append_own (P := P) w base t o.type e i z size bytes ht hi hz hz1 hz2 hzs hsz v n xs hown ad m c news hl hc h1 (by unfold maxLen; omega) hb hbase
  unfold Oper.wp execOp
  simp only [hop, resolve, invoke, builtin, Sem.run_bind, Sem.run_pure, Result.andThen_ok, List.map_toArray, List.map_cons, List.map_nil, hs, hx, hr]
  exact hK _ _ (h v' w' h2 h3)
end
theorem addr_add (g j : Nat) : (⟨g, 0, none⟩ : Addr).add j = ⟨g, j, none⟩ := by unfold Addr.add; split <;> simp_all
theorem owns_form {w : World} {base size n : Nat} {e : TypeId} {v : Value} {xs : List Value} (h : w.ownsRow base e size v n xs) (hn : 0 < n) : ∃ g cap, v = .slice (some ⟨g, 0, none⟩) n cap ∧ base ≤ g := by
  rcases h.2 with ⟨_, h2⟩ | ⟨g, cap, cur, h1, h2, _⟩
  · omega
  · exact ⟨g, cap, h1, h2⟩
theorem Good_snoc {p : Int} {f : Nat → Int} {fs : List (Nat → Int)} : Good p (fs ++ [f]) ↔ Good p (f :: fs) := by
  unfold Good
  constructor
  · intro h; refine ⟨h.1, fun g hg => h.2 g ?_⟩
    rcases List.mem_cons.1 hg with rfl | h2 <;> simp [*]
  · intro h; refine ⟨h.1, fun g hg => h.2 g ?_⟩
    rcases List.mem_append.1 hg with h2 | h2
    · exact List.mem_cons_of_mem _ h2
    · rw [List.mem_singleton.1 h2]; simp

set_option maxRecDepth 20000 in
set_option maxHeartbeats 1000000 in
theorem modulusCode_lit (f : Nat → Int) (fs : List (Nat → Int)) (n N : Nat) (hn : fs.length = n) (hN : N = n * 64) (hn0 : 0 < n) (hn2 : n ≤ 1000) (p : Int) (g : Nat) (w : World) (hB : Blk w g (u8s N (polysF fs)) 25)
    (hf : By f) (hfs : ∀ f ∈ fs, By f) (b c : Bool) (hb : Good p (f :: fs) ↔ b = true) (hc : decide (Mon (mkp 64 f)) = c) :
    Calls Try.prog 10 #[.int .i64 p, .agg (u8s 64 f), .slice (some ⟨g, 0, none⟩) n n] w fun e w' => e = .returned (.int .i64 (modC b c)) ∧ Below g w w' := by
  have hlt := hB.lt
  have hA := Blk.new w (u8s 64 f) 25
  have hb0 : Below g w (w.alloc (.cells (u8s 64 f) 25)) := (Below.refl _ _).alloc (by omega) _
  have hown : (w.alloc (.cells (u8s 64 f) 25)).ownsRow g 25 64 (.slice (some ⟨g, 0, none⟩) n n) n ((List.range N).map fun j => .int .u8 (polysF fs j)) := by
    have hB1 := hB.alloc (.cells (u8s 64 f) 25)
    refine ⟨by simp [hN], .inr ⟨g, n, _, rfl, Nat.le_refl _, hB1, Nat.le_refl _, by unfold maxLen; omega, by rw [u8s_size, hN], ?_⟩⟩
    unfold u8s
    rw [arr_list, List.take_of_length_le (by simp [hN])]
  replace hown := hown.alloc (.cells (u8s 64 (polysF [f])) 25)
  have hall : ∀ h ∈ fs ++ [f], By h := fun h hh => by
    rcases List.mem_append.1 hh with h1 | h1
    · exact hfs h h1
    · rw [List.mem_singleton.1 h1]; exact hf
  have h1 := Lib.hid (fun (oa : Option Addr) (cap : Nat) (w : World) (hC : CellsAt w oa ((n + 1) * 64) (fun j => .int .u8 (polysF (fs ++ [f]) j))) =>
    polysCode_any (polysF (fs ++ [f])) (n + 1) cap oa p w (fun j _ => polysF_in _ hall j) (by omega) hC b (by rw [← hb, ← Good_snoc]; unfold Good; rw [← AllP_polysF, List.length_append, hn]; exact Iff.rfl))
  have h2 := Lib.hid (fun w => isModulus_any f w hf c hc)
  have hnew : ∀ j u, ((List.range 64).map fun j => Value.int .u8 (f j))[j]? = some u → ((w.alloc (.cells (u8s 64 f) 25)).alloc (.cells (u8s 64 (polysF [f])) 25)).cell? ⟨w.heap.size + 1, j, none⟩ = some u := by
    intro j u hj
    rw [World.cell?_alloc_at _ _ _ _ (by simp)]
    rw [List.getElem?_map] at hj
    by_cases h : j < 64
    · rw [List.getElem?_range h] at hj
      have e := Option.some.inj hj
      have e2 : polysF [f] j = f j := by unfold polysF; rw [show j / 64 = 0 by omega, show j % 64 = j by omega]; rfl
      subst e
      show (u8s 64 (polysF [f]))[j]? = _
      rw [u8s_get _ h, e2]
    · rw [List.getElem?_eq_none (by simp; omega)] at hj; cases hj
  have hsn := Lib.hid (polys_snoc_cells fs f n N hn hN)
  have hownH := Lib.hid hown
  have hnewH := Lib.hid hnew
  have hgs := hB.lt
  clear hB hf hfs hb hc hall hown hnew
  go_enter Try.func10, Try.ntmps10
  go_wp2_with (first | (refine wpl_load_arr rfl 25 _ rfl _ rfl _ _ hA _ _ uPoly sPoly ?_) | (refine wpl_buildSlice_polys rfl 38 25 1 _ rfl Try.underlying38 sPoly zPoly [f] rfl (by decide) (by decide) rfl ?_) |
    (at_builtin; refine wpl_append_grow rfl _ _ 38 rfl g 25 _ 64 64 Try.underlying38 iPoly (by simp [Value.cells, u8s_size]) (by decide) (by decide) _ n _ rfl hownH.out ⟨w.heap.size + 1, 0, none⟩ 1 1 (congrArg (fun n => Value.slice (some ⟨n, 0, none⟩) 1 1) (size_alloc w _)) ((List.range 64).map fun j => .int .u8 (f j)) (by rw [List.length_map, List.length_range]) (fun j u h => by rw [addr_add]; exact hnewH.out j u h) (by intro u hu; rw [List.mem_map] at hu; obtain ⟨j, _, rfl⟩ := hu; rfl) (by omega) (by simp only [size_alloc]; omega) ?_; intro v' w2 hown2 hn2; rw [hsn.out] at hown2; have hown3 := Lib.hid hown2; clear hown2))
  have hown2 := hown3.out
  clear hown3
  have hA2 := (hA.alloc (.cells (u8s 64 (polysF [f])) 25)).grown hn2 (fun e => by have h9 : w.heap.size = g := Option.some.inj e; omega)
  replace hb0 : Below g w w2 := (hb0.alloc (by simp only [size_alloc]; omega) (.cells (u8s 64 (polysF [f])) 25)).grown hn2 (by simp only [size_alloc]; omega) (fun k e => by have h9 : g = k := Option.some.inj e; omega)
  clear hn2
  obtain ⟨g', cap, rfl, _⟩ := owns_form hown2 (by omega)
  have hC : CellsAt w2 (some ⟨g', 0, none⟩) ((n + 1) * 64) (fun j => .int .u8 (polysF (fs ++ [f]) j)) := fun _ => ⟨g', 0, rfl, fun j hj => by
    rw [Nat.zero_add, hown2.cellAt j hj, List.getElem?_map, List.getElem?_range hj]; rfl⟩
  have hCH := Lib.hid hC
  clear hC hown2 hownH hnewH hsn
  go_wp2_with fail
  refine (h1.out _ _ _ hCH.out).mono ?_
  rintro e w3 ⟨rfl, hn3⟩
  have hA3 := hA2.keep hn3
  have hb3 : Below g w w3 := hb0.trans (hn3.mono (by have := hA2.lt; omega))
  clear hA2 hn3 hb0 hCH h1
  cases b
  · go_wp2_with fail
    go_ret
    exact ⟨rfl, hb3⟩
  · go_wp2_with ((with_reducible refine wpl_guard ?_); first | (refine wpl_load_arr rfl 25 _ rfl _ rfl _ _ hA3 _ _ uPoly sPoly ?_))
    refine (h2.out _).mono ?_
    rintro e w4 ⟨rfl, hn⟩
    have hb4 : Below g w w4 := hb3.trans (hn.mono (by have := hA3.lt; omega))
    cases c
    · go_wp2_with fail
      go_ret
      exact ⟨rfl, hb4⟩
    · go_wp2_with fail
      go_ret
      exact ⟨rfl, hb4⟩
end Go.Proofs.Ytojkngdabejjdaa
