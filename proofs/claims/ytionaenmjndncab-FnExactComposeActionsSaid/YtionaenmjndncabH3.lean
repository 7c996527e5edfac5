/- Walks: the reference's AddActions. -/
import Derived.Test.YtionaenmjndncabH2
set_option linter.unusedVariables false
set_option linter.unusedSimpArgs false
namespace Go.Proofs.Ytionaenmjndncab
open Go.RowKit
theorem Fl.pl {w : World} {B : Nat} {v : Value} {n : Nat} {F : Nat → Int} (h : Fl w B v n F) : PlS w B v n (rowL n F) := by
  unfold Fl at h
  unfold PlS
  rw [← show (List.range (n * 64)).map (fun j => Value.int .u8 (F j)) = (List.range (n * 64)).map (pcell (rowL n F)) from List.map_congr_left fun j hj => by
    have := List.mem_range.1 hj
    unfold pcell
    rw [rowL_lt (by omega), mkp_cf, if_pos (by omega), show j / 64 * 64 + j % 64 = j by omega]]
  exact h
theorem addp_void {p : Int} {xs : List Int} (hp : 0 < p) (hx : Po p xs) : addp p xs [] 1 = xs := (addp_Po hp _ _ _).ext hx fun i => by
  rw [addp_cf, cf_nil, Int.mul_zero, Int.add_zero]
  exact Int.emod_eq_of_lt (hx.md i).1 (hx.md i).2
set_option maxRecDepth 20000 in
set_option maxHeartbeats 4000000 in
theorem specAddActions_any (ga gb na nb ca cb BA BB : Nat) (F G : Nat → Int) (p : Int) (w : World) (hF : By F) (hG : By G) (ha : Fl w BA (.slice (some ⟨ga, 0, none⟩) na ca) na F) (hb : Fl w BB (.slice (some ⟨gb, 0, none⟩) nb cb) nb G) (hna : na ≤ 10000000) (hnb : nb ≤ 10000000)
    (b c : Bool) (hbb : GoodL p na nb F G ↔ b = true) (hc : decide (na ≤ 7 ∧ nb ≤ 7) = c) :
    Calls Try.prog 21 #[.int .i64 p, .slice (some ⟨ga, 0, none⟩) na ca, .slice (some ⟨gb, 0, none⟩) nb cb] w fun e w' => ∃ v, e = .returned (.tuple #[v, .int .i64 (lcode b c)]) ∧ PlS w' w.heap.size v (adN p na nb F G b c) (sumL p (rowL na F) (rowL nb G)) ∧ Below w.heap.size w w' := by
  have H1 := Lib.hid (l04Lists_any _ _ na nb BA BB F G p w hF hG ha hb hna hnb b c hbb hc)
  have hAL := Lib.hid ha.pl
  have hBL := Lib.hid hb.pl
  unfold adN
  by_cases hbc : (b && c) = true
  · have hbT : b = true := by cases b <;> simp_all
    have hcT : c = true := by cases c <;> simp_all
    subst hbT hcT
    obtain ⟨hp, hAF, hAG⟩ := hbb.2 rfl
    have h7 := of_decide_eq_true hc
    have hMA := Lib.hid (rowL_P64 hp hF hAF)
    have hMB := Lib.hid (rowL_P64 hp hG hAG)
    have hMS := Lib.hid (fun i => sumL_P64 (hMA.out i) (hMB.out i))
    rw [if_pos hbc]
    obtain ⟨L, hL⟩ : ∃ L, max na nb = L := ⟨_, rfl⟩
    obtain ⟨MA, hMAe⟩ : ∃ M, rowL na F = M := ⟨_, rfl⟩
    obtain ⟨MB, hMBe⟩ : ∃ M, rowL nb G = M := ⟨_, rfl⟩
    have hAz := Lib.hid (fun j (hj : na ≤ j) => (by rw [← hMAe]; exact rowL_ge hj : MA j = []))
    have hBz := Lib.hid (fun j (hj : nb ≤ j) => (by rw [← hMBe]; exact rowL_ge hj : MB j = []))
    rw [hMAe] at hMA hMS hAL
    rw [hMBe] at hMB hMS hBL
    rw [hMAe, hMBe, hL]
    have hadd := Lib.hid (fun i w => l01Add_list (MA i) (MB i) p 1 w (hMA.out i) (hMB.out i) (by decide) (by decide))
    have hSA := Lib.hid (fun j (hj : nb ≤ j) => (by unfold sumL; rw [hBz.out j hj]; exact addp_void (by have := hp.pos; omega) (hMA.out j).po : sumL p MA MB j = MA j))
    have hL7 : L ≤ 7 := by omega
    have hLa : na ≤ L := by omega
    have hLb : nb ≤ L := by omega
    have hLab : ∀ k, k < L → ¬ k < na → k < nb := by omega
    have hLabH := Lib.hid hLab
    have hTr := Lib.hid (fun u B w (h : PlS w B u L (sumL p MA MB)) => l04TrimG_any u L B p (sumL p MA MB) w h (by omega) fun i _ => hMS.out i)
    clear ha hb hF hG hbb hc hbc hMAe hMBe hL hAF hAG hp hLab
    go_enter Try.func21, Try.ntmps21
    go_wp2_with fail
    refine H1.out.mono ?_
    rintro e w1 ⟨rfl, hb1⟩
    have hg : (lcode true true != 0) = false := rfl
    have hV0 := PlS.void w1 (sumL p MA MB)
    have hn := below_new w1 (.cells #[] 23)
    have hV1 := Lib.hid (owns_mono' hV0 hb1.size)
    have hb2 := below_step hb1 hn
    clear hV0 hn
    go_wp2_with ((with_reducible refine wpl_guard ?_); first | (refine wpl_buildSlice_voidN rfl 29 23 64 rfl uPolys1 sPoly (by rw [zPoly]; rfl) ?_))
    go_loopw [9, 10] (fun vo iv wr => ∃ k : Nat, k ≤ L ∧ iv = .int .i64 (k : Int) ∧ Hid (PlS wr w.heap.size vo k (sumL p MA MB)) ∧ Below w.heap.size w wr) (fun _ iv _ => L - (intOf iv).toNat)
    case atStart => exact ⟨0, by omega, rfl, hV1, hb2⟩
    case round =>
      clear hV1 hb2 hb1
      obtain ⟨k, hk, rfl, hV, hb⟩ := hrel
      by_cases hA : k < na
      · by_cases hB : k < nb
        · have hz := Below.refl wr.heap.size wr
          have hn := below_new wr (.cells (u8s 64 fun _ => 0) 23)
          have hW := Blk.new wr (u8s 64 fun _ => 0) 23
          replace hz := below_step hz hn
          clear hn
          go_upto_region 9 with ((with_reducible refine wpl_guard ?_); first | (refine wpl_build_zero rfl 23 64 5 rfl _ uPoly sByte zPoly ?_) | (refine wpl_alloc_arr rfl 23 rfl _ zPoly ?_) | (refine wpl_store_new rfl 23 _ _ rfl _ rfl rfl _ rfl sPoly (by simp only [u8s_size]) (u8s_oneCell _ _) ?_))
          have hAc := Lib.hid ((hAL.out.below (hb.trans (hz.mono hb.size))).cells k hA)
          go_upto_region 12 with ((with_reducible refine wpl_guard ?_); first | (refine wpl_load_mid rfl 23 _ rfl ga (k * 64) rfl 64 _ _ hAc.out uPoly sPoly ?_) | (refine wpl_store_arr rfl 23 _ _ rfl _ rfl (u8s 64 (cf (MA k))) rfl _ _ hW sPoly (by simp only [u8s_size]) (u8s_oneCell _ _) ?_))
          clear hAc
          have hW2 := hW.setRow_same (cs := u8s 64 (cf (MA k)))
          have hz2 := below_setRow hz (g := wr.heap.size) (Nat.le_refl _) (u8s 64 (cf (MA k)))
          clear hW hz
          generalize World.setRow _ wr.heap.size (u8s 64 (cf (MA k))) = vW at *
          have hW := hW2
          have hz := hz2
          clear hW2 hz2
          have hLc := Lib.hid (hBL.out.below (hb.trans (hz.mono hb.size)))
          go_upto_region 12 with (fail)
          refine gen_last (w := _) (by kernel_rfl) (by kernel_rfl) (by kernel_rfl) 7 (by kernel_rfl)
              (fun i => ([fun zv _ => zv = .int .i64 p, fun zv _ => zv = .agg (u8s 64 (cf (MA k))), fun zv _ => zv = .slice (some ⟨gb, 0, none⟩) nb cb, fun zv _ => zv = .int .i64 ((k : Nat) : Int), fun zv _ => zv = .pointer (some ⟨gb, k * 64, none⟩), fun zv _ => zv = .agg (u8s 64 (cf (MB k))), fun zv _ => zv = .agg (u8s 64 (cf (addp p (MA k) (MB k) 1))), fun _ _ => True] : List (Value → World → Prop)).getD i (fun _ _ => True))
              (fun w' => Blk w' (wr.heap.size) (u8s 64 (cf (MA k))) 23 ∧ True) ⟨hW.drew, trivial⟩ (fun w1 w2 h hb => ⟨h.1.keep hb, trivial⟩) ?_ ?_ ?_
          · intro i v w1 w2 h hb
            rcases i with _|_|_|_|_|_|_|_|i
            · exact h
            · exact h
            · exact h
            · exact h
            · exact h
            · exact h
            · exact h
            · exact h
            · exact h
          · intro i o ho hiZ a w2 hBl hSx hrd hpar
            rcases i with _|_|_|_|_|_|_|_|i
            · obtain rfl := Option.some.inj ho
              refine .inl ⟨rfl, ?_⟩
              have e0 : a.eval (.tmp 0) = .int .i64 p := hpar 0 _ (by kernel_rfl) (by kernel_rfl)
              exact wpv_of (wp_move _ _ rfl e0) (fun _ _ => rfl)
            · obtain rfl := Option.some.inj ho
              refine .inl ⟨rfl, ?_⟩
              exact wpv_of (wp_loadB 23 _ rfl _ (hpar 11 (.pointer (some ⟨wr.heap.size, 0, none⟩)) (by kernel_rfl) (by kernel_rfl)) _ _ hSx.1 _ _ uPoly sPoly) (fun _ _ => rfl)
            · obtain rfl := Option.some.inj ho
              refine .inl ⟨rfl, ?_⟩
              have e2 : a.eval (.tmp 2) = .slice (some ⟨gb, 0, none⟩) nb cb := hpar 2 _ (by kernel_rfl) (by kernel_rfl)
              exact wpv_of (wp_move _ _ rfl e2) (fun _ _ => rfl)
            · obtain rfl := Option.some.inj ho
              refine .inl ⟨rfl, ?_⟩
              have e10 : a.eval (.tmp 10) = .int .i64 ((k : Nat) : Int) := hpar 10 _ (by kernel_rfl) (by kernel_rfl)
              exact wpv_of (wp_move _ _ rfl e10) (fun _ _ => rfl)
            · obtain rfl := Option.some.inj ho
              refine .inl ⟨rfl, ?_⟩
              have e47 : a.eval (.tmp 47) = .slice (some ⟨gb, 0, none⟩) nb cb := hrd 2 _ 47 rfl rfl (by kernel_rfl) (by kernel_rfl)
              have e48 : a.eval (.tmp 48) = .int .i64 ((k : Nat) : Int) := hrd 3 _ 48 rfl rfl (by kernel_rfl) (by kernel_rfl)
              exact wpv_of (wp_index_pl 29 23 64 _ _ rfl uPolys1 sPoly (by decide) gb nb cb k .i64 e47 e48 hB) (fun _ _ => rfl)
            · obtain rfl := Option.some.inj ho
              refine .inl ⟨rfl, ?_⟩
              have e49 : a.eval (.tmp 49) = .pointer (some ⟨gb, k * 64, none⟩) := hrd 4 _ 49 rfl rfl (by kernel_rfl) (by kernel_rfl)
              exact wpv_of (wp_load_pl 23 _ rfl gb k e49 _ ((hLc.out.below hBl).cells k hB) _ uPoly sPoly) (fun _ _ => rfl)
            · obtain rfl := Option.some.inj ho
              refine .inl ⟨rfl, ?_⟩
              have e45 : a.eval (.tmp 45) = .int .i64 p := hrd 0 _ 45 rfl rfl (by kernel_rfl) (by kernel_rfl)
              have e46 : a.eval (.tmp 46) = .agg (u8s 64 (cf (MA k))) := hrd 1 _ 46 rfl rfl (by kernel_rfl) (by kernel_rfl)
              have e50 : a.eval (.tmp 50) = .agg (u8s 64 (cf (MB k))) := hrd 5 _ 50 rfl rfl (by kernel_rfl) (by kernel_rfl)
              exact wpv_call 42 [.tmp 45, .tmp 46, .tmp 50, .const (.int .i64 1)] _ rfl [.int .i64 p, .agg (u8s 64 (cf (MA k))), .agg (u8s 64 (cf (MB k))), .int .i64 1] (by simp only [List.map_cons, List.map_nil, e45, e46, e50, eval_const]) Try.call42 ((hadd.out k w2).mono fun _ _ h => ⟨_, h.1, rfl, h.2⟩)
            · obtain rfl := Option.some.inj ho
              exact absurd rfl hiZ
            · simp at ho
          intro oZ hoZ vals xE hBx hSx hc0
          obtain rfl := Option.some.inj hoZ
          clear hoZ
          have e0 : vals 0 = .int .i64 p := hc0 0 (by simp) (by decide)
          have e1 : vals 1 = .agg (u8s 64 (cf (MA k))) := hc0 1 (by simp) (by decide)
          have e2 : vals 2 = .slice (some ⟨gb, 0, none⟩) nb cb := hc0 2 (by simp) (by decide)
          have e3 : vals 3 = .int .i64 ((k : Nat) : Int) := hc0 3 (by simp) (by decide)
          have e4 : vals 4 = .pointer (some ⟨gb, k * 64, none⟩) := hc0 4 (by simp) (by decide)
          have e5 : vals 5 = .agg (u8s 64 (cf (MB k))) := hc0 5 (by simp) (by decide)
          have e6 : vals 6 = .agg (u8s 64 (cf (addp p (MA k) (MB k) 1))) := hc0 6 (by simp) (by decide)
          refine ⟨rfl, ?_⟩
          simp only [List.length_cons, List.length_nil, Nat.zero_add, Nat.reduceAdd, List.replicate, seenAll, Bool.false_eq_true, if_false, putAll, if_true, Act.put, List.setIfInBounds_toArray, List.set_cons_zero, List.set_cons_succ, e0, e1, e2, e3, e4, e5, e6]
          replace hW := hSx.1
          replace hz := below_step hz hBx
          clear hc0 hSx e0 e1 e2 e3 e4 e5 e6
          obtain ⟨X, hX⟩ : ∃ X, addp p (MA k) (MB k) 1 = X := ⟨_, rfl⟩
          have hSX := Lib.hid (show sumL p MA MB k = X from hX)
          rw [hX]
          clear hX
          refine wp_store_arr 23 _ _ rfl wr.heap.size rfl (u8s 64 (cf X)) rfl (u8s 64 (cf (MA k))) _ hW sPoly (by simp only [u8s_size]) (u8s_oneCell _ _) ?_
          clear hLc hBx
          have hW2 := hW.setRow_same (cs := u8s 64 (cf X))
          have hz2 := below_setRow hz (g := wr.heap.size) (Nat.le_refl _) (u8s 64 (cf X))
          clear hW hz
          generalize World.setRow _ wr.heap.size (u8s 64 (cf X)) = vW at *
          have hW := hW2
          have hz := hz2
          clear hW2 hz2
          go_upto_region 13 with (fail)
          have hV1 := hV.out.below hz
          have hbc := hb.trans (hz.mono hb.size)
          rename World => yw
          have hV2 := Lib.hid (hV1.below (below_new _ (.cells (u8s (1 * 64) (polysF [cf X])) 23)))
          have hnewH := Lib.hid (poly_new yw X)
          have h1c := Lib.hid (poly_one X)
          have hsz := hbc.size
          have hb3 := hbc.alloc hsz (.cells (u8s (1 * 64) (polysF [cf X])) 23)
          clear hV1 hbc hz
          go_wp2_with ((with_reducible refine wpl_guard ?_); first | (refine wpl_load_arr rfl 23 _ rfl _ rfl _ _ hW _ _ uPoly sPoly ?_) | (refine wpl_buildSlice_polys rfl 29 23 1 _ rfl Try.underlying29 sPoly zPoly [cf X] rfl (by decide) (by decide) rfl ?_) | (at_builtin; refine wpl_append_one rfl _ _ 29 rfl w.heap.size 23 _ 64 64 Try.underlying29 iPoly (by simp [Value.cells, u8s_size]) (by decide) (by decide) _ k _ rfl hV2.out yw.heap.size rfl (u8s 64 (cf X)).toList (by rw [Array.length_toList, u8s_size]) hnewH.out h1c.out (by omega) (by simp only [size_alloc]; omega) ?_))
          intro v' w9 hown3 hbb2
          have hP3 : PlS w9 w.heap.size v' (k + 1) (sumL p MA MB) := by unfold PlS; rw [pcells_succ, hSX.out]; exact hown3
          have hP3H := Lib.hid hP3
          have hb4 := hb3.trans hbb2
          clear hown3 hbb2 hP3
          go_wp2_with fail
          go_roundw
          case rel => exact ⟨k + 1, by omega, by go_num, hP3H, hb4⟩
          case measure => simp [intOf] <;> omega
        · have hz := Below.refl wr.heap.size wr
          have hn := below_new wr (.cells (u8s 64 fun _ => 0) 23)
          have hW := Blk.new wr (u8s 64 fun _ => 0) 23
          replace hz := below_step hz hn
          clear hn
          go_upto_region 9 with ((with_reducible refine wpl_guard ?_); first | (refine wpl_build_zero rfl 23 64 5 rfl _ uPoly sByte zPoly ?_) | (refine wpl_alloc_arr rfl 23 rfl _ zPoly ?_) | (refine wpl_store_new rfl 23 _ _ rfl _ rfl rfl _ rfl sPoly (by simp only [u8s_size]) (u8s_oneCell _ _) ?_))
          have hAc := Lib.hid ((hAL.out.below (hb.trans (hz.mono hb.size))).cells k hA)
          go_upto_region 13 with ((with_reducible refine wpl_guard ?_); first | (refine wpl_load_mid rfl 23 _ rfl ga (k * 64) rfl 64 _ _ hAc.out uPoly sPoly ?_) | (refine wpl_store_arr rfl 23 _ _ rfl _ rfl (u8s 64 (cf (MA k))) rfl _ _ hW sPoly (by simp only [u8s_size]) (u8s_oneCell _ _) ?_))
          clear hAc
          have hW2 := hW.setRow_same (cs := u8s 64 (cf (MA k)))
          have hz2 := below_setRow hz (g := wr.heap.size) (Nat.le_refl _) (u8s 64 (cf (MA k)))
          clear hW hz
          generalize World.setRow _ wr.heap.size (u8s 64 (cf (MA k))) = vW at *
          have hW := hW2
          have hz := hz2
          clear hW2 hz2
          have hSX := Lib.hid (hSA.out k (by omega))
          have hV1 := hV.out.below hz
          have hbc := hb.trans (hz.mono hb.size)
          rename World => yw
          have hV2 := Lib.hid (hV1.below (below_new _ (.cells (u8s (1 * 64) (polysF [cf (MA k)])) 23)))
          have hnewH := Lib.hid (poly_new yw (MA k))
          have h1c := Lib.hid (poly_one (MA k))
          have hsz := hbc.size
          have hb3 := hbc.alloc hsz (.cells (u8s (1 * 64) (polysF [cf (MA k)])) 23)
          clear hV1 hbc hz
          go_wp2_with ((with_reducible refine wpl_guard ?_); first | (refine wpl_load_arr rfl 23 _ rfl _ rfl _ _ hW _ _ uPoly sPoly ?_) | (refine wpl_buildSlice_polys rfl 29 23 1 _ rfl Try.underlying29 sPoly zPoly [cf (MA k)] rfl (by decide) (by decide) rfl ?_) | (at_builtin; refine wpl_append_one rfl _ _ 29 rfl w.heap.size 23 _ 64 64 Try.underlying29 iPoly (by simp [Value.cells, u8s_size]) (by decide) (by decide) _ k _ rfl hV2.out yw.heap.size rfl (u8s 64 (cf (MA k))).toList (by rw [Array.length_toList, u8s_size]) hnewH.out h1c.out (by omega) (by simp only [size_alloc]; omega) ?_))
          intro v' w9 hown3 hbb2
          have hP3 : PlS w9 w.heap.size v' (k + 1) (sumL p MA MB) := by unfold PlS; rw [pcells_succ, hSX.out]; exact hown3
          have hP3H := Lib.hid hP3
          have hb4 := hb3.trans hbb2
          clear hown3 hbb2 hP3
          go_wp2_with fail
          go_roundw
          case rel => exact ⟨k + 1, by omega, by go_num, hP3H, hb4⟩
          case measure => simp [intOf] <;> omega
      · by_cases hB : k < nb
        · have hz := Below.refl wr.heap.size wr
          have hn := below_new wr (.cells (u8s 64 fun _ => 0) 23)
          have hW := Blk.new wr (u8s 64 fun _ => 0) 23
          replace hz := below_step hz hn
          clear hn
          go_upto_region 9 with ((with_reducible refine wpl_guard ?_); first | (refine wpl_build_zero rfl 23 64 5 rfl _ uPoly sByte zPoly ?_) | (refine wpl_alloc_arr rfl 23 rfl _ zPoly ?_) | (refine wpl_store_new rfl 23 _ _ rfl _ rfl rfl _ rfl sPoly (by simp only [u8s_size]) (u8s_oneCell _ _) ?_))
          replace hW := hW.cast (u8s_ext (g := cf (MA k)) fun q _ => by rw [hAz.out k (by omega), cf_nil])
          go_upto_region 12 with (fail)
          have hLc := Lib.hid (hBL.out.below (hb.trans (hz.mono hb.size)))
          go_upto_region 12 with (fail)
          refine gen_last (w := _) (by kernel_rfl) (by kernel_rfl) (by kernel_rfl) 7 (by kernel_rfl)
              (fun i => ([fun zv _ => zv = .int .i64 p, fun zv _ => zv = .agg (u8s 64 (cf (MA k))), fun zv _ => zv = .slice (some ⟨gb, 0, none⟩) nb cb, fun zv _ => zv = .int .i64 ((k : Nat) : Int), fun zv _ => zv = .pointer (some ⟨gb, k * 64, none⟩), fun zv _ => zv = .agg (u8s 64 (cf (MB k))), fun zv _ => zv = .agg (u8s 64 (cf (addp p (MA k) (MB k) 1))), fun _ _ => True] : List (Value → World → Prop)).getD i (fun _ _ => True))
              (fun w' => Blk w' (wr.heap.size) (u8s 64 (cf (MA k))) 23 ∧ True) ⟨hW.drew, trivial⟩ (fun w1 w2 h hb => ⟨h.1.keep hb, trivial⟩) ?_ ?_ ?_
          · intro i v w1 w2 h hb
            rcases i with _|_|_|_|_|_|_|_|i
            · exact h
            · exact h
            · exact h
            · exact h
            · exact h
            · exact h
            · exact h
            · exact h
            · exact h
          · intro i o ho hiZ a w2 hBl hSx hrd hpar
            rcases i with _|_|_|_|_|_|_|_|i
            · obtain rfl := Option.some.inj ho
              refine .inl ⟨rfl, ?_⟩
              have e0 : a.eval (.tmp 0) = .int .i64 p := hpar 0 _ (by kernel_rfl) (by kernel_rfl)
              exact wpv_of (wp_move _ _ rfl e0) (fun _ _ => rfl)
            · obtain rfl := Option.some.inj ho
              refine .inl ⟨rfl, ?_⟩
              exact wpv_of (wp_loadB 23 _ rfl _ (hpar 11 (.pointer (some ⟨wr.heap.size, 0, none⟩)) (by kernel_rfl) (by kernel_rfl)) _ _ hSx.1 _ _ uPoly sPoly) (fun _ _ => rfl)
            · obtain rfl := Option.some.inj ho
              refine .inl ⟨rfl, ?_⟩
              have e2 : a.eval (.tmp 2) = .slice (some ⟨gb, 0, none⟩) nb cb := hpar 2 _ (by kernel_rfl) (by kernel_rfl)
              exact wpv_of (wp_move _ _ rfl e2) (fun _ _ => rfl)
            · obtain rfl := Option.some.inj ho
              refine .inl ⟨rfl, ?_⟩
              have e10 : a.eval (.tmp 10) = .int .i64 ((k : Nat) : Int) := hpar 10 _ (by kernel_rfl) (by kernel_rfl)
              exact wpv_of (wp_move _ _ rfl e10) (fun _ _ => rfl)
            · obtain rfl := Option.some.inj ho
              refine .inl ⟨rfl, ?_⟩
              have e47 : a.eval (.tmp 47) = .slice (some ⟨gb, 0, none⟩) nb cb := hrd 2 _ 47 rfl rfl (by kernel_rfl) (by kernel_rfl)
              have e48 : a.eval (.tmp 48) = .int .i64 ((k : Nat) : Int) := hrd 3 _ 48 rfl rfl (by kernel_rfl) (by kernel_rfl)
              exact wpv_of (wp_index_pl 29 23 64 _ _ rfl uPolys1 sPoly (by decide) gb nb cb k .i64 e47 e48 hB) (fun _ _ => rfl)
            · obtain rfl := Option.some.inj ho
              refine .inl ⟨rfl, ?_⟩
              have e49 : a.eval (.tmp 49) = .pointer (some ⟨gb, k * 64, none⟩) := hrd 4 _ 49 rfl rfl (by kernel_rfl) (by kernel_rfl)
              exact wpv_of (wp_load_pl 23 _ rfl gb k e49 _ ((hLc.out.below hBl).cells k hB) _ uPoly sPoly) (fun _ _ => rfl)
            · obtain rfl := Option.some.inj ho
              refine .inl ⟨rfl, ?_⟩
              have e45 : a.eval (.tmp 45) = .int .i64 p := hrd 0 _ 45 rfl rfl (by kernel_rfl) (by kernel_rfl)
              have e46 : a.eval (.tmp 46) = .agg (u8s 64 (cf (MA k))) := hrd 1 _ 46 rfl rfl (by kernel_rfl) (by kernel_rfl)
              have e50 : a.eval (.tmp 50) = .agg (u8s 64 (cf (MB k))) := hrd 5 _ 50 rfl rfl (by kernel_rfl) (by kernel_rfl)
              exact wpv_call 42 [.tmp 45, .tmp 46, .tmp 50, .const (.int .i64 1)] _ rfl [.int .i64 p, .agg (u8s 64 (cf (MA k))), .agg (u8s 64 (cf (MB k))), .int .i64 1] (by simp only [List.map_cons, List.map_nil, e45, e46, e50, eval_const]) Try.call42 ((hadd.out k w2).mono fun _ _ h => ⟨_, h.1, rfl, h.2⟩)
            · obtain rfl := Option.some.inj ho
              exact absurd rfl hiZ
            · simp at ho
          intro oZ hoZ vals xE hBx hSx hc0
          obtain rfl := Option.some.inj hoZ
          clear hoZ
          have e0 : vals 0 = .int .i64 p := hc0 0 (by simp) (by decide)
          have e1 : vals 1 = .agg (u8s 64 (cf (MA k))) := hc0 1 (by simp) (by decide)
          have e2 : vals 2 = .slice (some ⟨gb, 0, none⟩) nb cb := hc0 2 (by simp) (by decide)
          have e3 : vals 3 = .int .i64 ((k : Nat) : Int) := hc0 3 (by simp) (by decide)
          have e4 : vals 4 = .pointer (some ⟨gb, k * 64, none⟩) := hc0 4 (by simp) (by decide)
          have e5 : vals 5 = .agg (u8s 64 (cf (MB k))) := hc0 5 (by simp) (by decide)
          have e6 : vals 6 = .agg (u8s 64 (cf (addp p (MA k) (MB k) 1))) := hc0 6 (by simp) (by decide)
          refine ⟨rfl, ?_⟩
          simp only [List.length_cons, List.length_nil, Nat.zero_add, Nat.reduceAdd, List.replicate, seenAll, Bool.false_eq_true, if_false, putAll, if_true, Act.put, List.setIfInBounds_toArray, List.set_cons_zero, List.set_cons_succ, e0, e1, e2, e3, e4, e5, e6]
          replace hW := hSx.1
          replace hz := below_step hz hBx
          clear hc0 hSx e0 e1 e2 e3 e4 e5 e6
          obtain ⟨X, hX⟩ : ∃ X, addp p (MA k) (MB k) 1 = X := ⟨_, rfl⟩
          have hSX := Lib.hid (show sumL p MA MB k = X from hX)
          rw [hX]
          clear hX
          refine wp_store_arr 23 _ _ rfl wr.heap.size rfl (u8s 64 (cf X)) rfl (u8s 64 (cf (MA k))) _ hW sPoly (by simp only [u8s_size]) (u8s_oneCell _ _) ?_
          clear hLc hBx
          have hW2 := hW.setRow_same (cs := u8s 64 (cf X))
          have hz2 := below_setRow hz (g := wr.heap.size) (Nat.le_refl _) (u8s 64 (cf X))
          clear hW hz
          generalize World.setRow _ wr.heap.size (u8s 64 (cf X)) = vW at *
          have hW := hW2
          have hz := hz2
          clear hW2 hz2
          go_upto_region 13 with (fail)
          have hV1 := hV.out.below hz
          have hbc := hb.trans (hz.mono hb.size)
          rename World => yw
          have hV2 := Lib.hid (hV1.below (below_new _ (.cells (u8s (1 * 64) (polysF [cf X])) 23)))
          have hnewH := Lib.hid (poly_new yw X)
          have h1c := Lib.hid (poly_one X)
          have hsz := hbc.size
          have hb3 := hbc.alloc hsz (.cells (u8s (1 * 64) (polysF [cf X])) 23)
          clear hV1 hbc hz
          go_wp2_with ((with_reducible refine wpl_guard ?_); first | (refine wpl_load_arr rfl 23 _ rfl _ rfl _ _ hW _ _ uPoly sPoly ?_) | (refine wpl_buildSlice_polys rfl 29 23 1 _ rfl Try.underlying29 sPoly zPoly [cf X] rfl (by decide) (by decide) rfl ?_) | (at_builtin; refine wpl_append_one rfl _ _ 29 rfl w.heap.size 23 _ 64 64 Try.underlying29 iPoly (by simp [Value.cells, u8s_size]) (by decide) (by decide) _ k _ rfl hV2.out yw.heap.size rfl (u8s 64 (cf X)).toList (by rw [Array.length_toList, u8s_size]) hnewH.out h1c.out (by omega) (by simp only [size_alloc]; omega) ?_))
          intro v' w9 hown3 hbb2
          have hP3 : PlS w9 w.heap.size v' (k + 1) (sumL p MA MB) := by unfold PlS; rw [pcells_succ, hSX.out]; exact hown3
          have hP3H := Lib.hid hP3
          have hb4 := hb3.trans hbb2
          clear hown3 hbb2 hP3
          go_wp2_with fail
          go_roundw
          case rel => exact ⟨k + 1, by omega, by go_num, hP3H, hb4⟩
          case measure => simp [intOf] <;> omega
        · obtain rfl : k = L := by
            by_cases e : k < L
            · exact absurd (hLabH.out k e hA) hB
            · omega
          go_wp2_with fail
          refine (hTr.out _ _ _ hV.out).mono ?_
          rintro e y1 ⟨u, rfl, hu, rfl⟩
          have huH := Lib.hid hu
          clear hu
          go_wp2_with fail
          go_ret2
          exact ⟨_, rfl, huH.out, hb⟩
  · have hz : (if (b && c) = true then tlen (sumL p (rowL na F) (rowL nb G)) (max na nb) else 0) = 0 := if_neg hbc
    rw [hz]
    have hg : (lcode b c != 0) = true := by cases b <;> cases c <;> simp_all [lcode]
    clear ha hb hF hG hbb hc hbc hz hAL hBL
    go_enter Try.func21, Try.ntmps21
    go_wp2_with fail
    refine H1.out.mono ?_
    rintro e w1 ⟨rfl, hb1⟩
    go_wp2_with fail
    go_ret2
    exact ⟨_, rfl, World.ownsRow_nil _ _ _ _, hb1⟩
end Go.Proofs.Ytionaenmjndncab
