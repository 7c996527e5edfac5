/- Walks: draws of a prime and a polynomial. -/
import Derived.Test.YtddgbnkojdmekaaDr4
set_option linter.unusedVariables false
set_option linter.unusedSimpArgs false
namespace Go.Proofs.Ytddgbnkojdmekaa
open Go.RowKit
section
variable {P : Program} {fn : Func} {tmps : Array Value} {w : World}
theorem res_tc {p u : Tmp} {ty n e : TypeId} (h : fn.results = #[.tmp u, .cell p ty]) {g t : Nat} {cs : Array Value} (hp : tmps.getD p undef = .pointer (some ⟨g, 0, none⟩)) (hb : Blk w g cs t)
    (hu : P.underlying ty = some (.array n e)) (hi : (P.info? ty).map (·.size) = some cs.size) {x : Value} (hx : tmps.getD u undef = x) : (results fn tmps).run P w = .ok (.tuple #[x, .agg cs]) w := by
  have hp' : tmps[p]?.getD undef = .pointer (some ⟨g, 0, none⟩) := by simpa using hp
  have hx' : tmps[u]?.getD undef = x := by simpa using hx
  simp [results, h, hp', hx', asAddr, run_loadVar_row w g t ty cs _ _ hb hu rfl hi]
theorem res_tcc {p p2 u : Tmp} {ty ty2 n e n2 e2 : TypeId} (h : fn.results = #[.tmp u, .cell p ty, .cell p2 ty2]) {g t g2 t2 : Nat} {cs cs2 : Array Value} (hp : tmps.getD p undef = .pointer (some ⟨g, 0, none⟩)) (hb : Blk w g cs t)
    (hu : P.underlying ty = some (.array n e)) (hi : (P.info? ty).map (·.size) = some cs.size) (hp2 : tmps.getD p2 undef = .pointer (some ⟨g2, 0, none⟩)) (hb2 : Blk w g2 cs2 t2)
    (hu2 : P.underlying ty2 = some (.array n2 e2)) (hi2 : (P.info? ty2).map (·.size) = some cs2.size) {x : Value} (hx : tmps.getD u undef = x) : (results fn tmps).run P w = .ok (.tuple #[x, .agg cs, .agg cs2]) w := by
  have hp' : tmps[p]?.getD undef = .pointer (some ⟨g, 0, none⟩) := by simpa using hp
  have hp2' : tmps[p2]?.getD undef = .pointer (some ⟨g2, 0, none⟩) := by simpa using hp2
  have hx' : tmps[u]?.getD undef = x := by simpa using hx
  simp [results, h, hp', hp2', hx', asAddr, run_loadVar_row w g t ty cs _ _ hb hu rfl hi, run_loadVar_row w g2 t2 ty2 cs2 _ _ hb2 hu2 rfl hi2]
end
set_option maxRecDepth 20000 in
set_option maxHeartbeats 1000000 in
theorem l01Spoil_any (B g : Nat) (w : World) (h : Src B w g) :
    Calls Try.prog 38 #[.pointer (some ⟨g, 0, none⟩)] w fun e w' => ∃ p f, e = .returned (.tuple #[.int .i64 p, .agg (u8s 64 f)]) ∧ -3 ≤ p ∧ p ≤ 11 ∧ By f ∧ Src B w' g ∧ w.grownBy w' (some g) := by
  have hlt := h.lt
  have hb := below_new w (.cells (u8s 64 fun _ => 0) 25)
  have hZ := Blk.new w (u8s 64 fun _ => 0) 25
  have hN := Lib.hid (l01DrawPrime_any B g _ (h.below hb))
  have hgw := Lib.hid (below_grown hb (some g))
  clear h hb
  go_enter Try.func38, Try.ntmps38
  go_wp2_with ((with_reducible refine wpl_guard ?_); first | (refine wpl_alloc_arr rfl 25 rfl _ zPoly ?_))
  refine hN.out.mono ?_
  rintro e w1 ⟨p, rfl, hp, hS1, hg1⟩
  have hp2 := hp.pos
  have hlt1 := hS1.lt
  have hn := below_new w1 (.cells (ints [3, 6, 9, 63]) 2)
  have hP := Lib.hid (l01Pick_any B g w1.heap.size [3, 6, 9, 63] _ (hS1.below hn) (Blk.new w1 _ _) (by decide) (by omega) (by decide))
  have hZ1 := (hZ.grownR hg1 (fun e => by injection e with e; omega)).keep hn
  have hg1H := Lib.hid ((hgw.out.trans hg1).trans (below_grown hn (some g)))
  clear hN hgw hZ hS1 hg1 hn hp
  go_wp2_with fail
  refine hP.out.mono ?_
  rintro e w2 ⟨m, rfl, hm, hS2, hg2⟩
  have hm2 : -1 ≤ m ∧ m ≤ 63 := by
    simp only [List.mem_cons, List.not_mem_nil, or_false] at hm
    omega
  have hD := Lib.hid (l01Draw_any B g p m w2 hS2 hm2.1 hm2.2)
  have hZ2 := hZ1.grownR hg2 (fun e => by injection e with e; omega)
  have hg2H := Lib.hid (hg1H.out.trans hg2)
  clear hP hZ1 hg1H hS2 hg2 hm
  go_wp2_with fail
  refine hD.out.mono ?_
  rintro e w3 ⟨f, rfl, hf, hS3, hg3⟩
  have hn := below_new w3 (.cells (u8s 64 f) 25)
  have hA := Blk.new w3 (u8s 64 f) 25
  have hZ3 := (hZ2.grownR hg3 (fun e => by injection e with e; omega)).keep hn
  have hg3H := Lib.hid ((hg2H.out.trans hg3).trans (below_grown hn (some g)))
  have hlt3 := hS3.lt
  have hsz3 := hg3H.out.size
  have hZlt := hZ3.lt
  have hzlt : w.heap.size < w3.heap.size := (hZ2.grownR hg3 (fun e => by injection e with e; omega)).lt
  have hN := Lib.hid (l01Next_any B g 40 _ (hS3.below hn))
  have hfH := Lib.hid hf.1
  clear hD hZ2 hg2H hS3 hg3 hf hn
  go_upto_region 3 with ((with_reducible refine wpl_guard ?_); first | (refine wpl_alloc_arr rfl 25 rfl _ zPoly ?_) | (refine wpl_store_new rfl 25 _ _ rfl _ rfl rfl _ rfl sPoly (by simp only [u8s_size]) (u8s_oneCell _ _) ?_))
  go_wp2_with fail
  refine hN.out.mono ?_
  rintro e w4 ⟨x, rfl, hx0, hx1, hS4, hg4⟩
  have hA4 := hA.grownR hg4 (fun e => by injection e with e; omega)
  have hZ4 := hZ3.grownR hg4 (fun e => by injection e with e; omega)
  have hg4H := Lib.hid (hg3H.out.trans hg4)
  clear hN hA hZ3 hg3H hg4
  by_cases hz : x = 0
  · have hlt4 := hS4.lt
    have hn := below_new w4 (.cells (ints [0, 1, 4, 11, -3]) 2)
    have hP := Lib.hid (l01Pick_any B g w4.heap.size [0, 1, 4, 11, -3] _ (hS4.below hn) (Blk.new w4 _ _) (by decide) (by omega) (by decide))
    have hA5 := hA4.keep hn
    have hZ5 := hZ4.keep hn
    have hg5 := Lib.hid (hg4H.out.trans (below_grown hn (some g)))
    clear hA4 hZ4 hg4H hS4 hn
    go_wp2_with fail
    refine hP.out.mono ?_
    rintro e w6 ⟨q, rfl, hq, hS6, hg6⟩
    have hq2 : -3 ≤ q ∧ q ≤ 11 := by
      simp only [List.mem_cons, List.not_mem_nil, or_false] at hq
      omega
    have hA := hA5.grownR hg6 (fun e => by injection e with e; omega)
    have hZ := hZ5.grownR hg6 (fun e => by injection e with e; omega)
    have hg := Lib.hid (hg5.out.trans hg6)
    have hS := Lib.hid hS6
    clear hP hA5 hZ5 hg5 hg6 hS6 hq
    have hBd := Lib.hid (fun q => l01Bad_any B g q f w6 hS.out hfH.out)
    have hge := hS.out.ge
    clear hS
    rcases Int.lt_or_le q 1 with hp1 | hp1
    all_goals
      go_wp2_with ((with_reducible refine wpl_guard ?_); first | (refine wpl_load_arr rfl 25 _ rfl _ rfl _ _ hA _ _ uPoly sPoly ?_))
      refine (hBd.out _).mono ?_
      rintro e w9 ⟨f2, rfl, hf2, hS9, hg9⟩
      have hZ9 := hZ.grownR hg9 (fun e => by injection e with e; omega)
      have hg9H := Lib.hid (hg.out.trans hg9)
      have hS9H := Lib.hid hS9
      have hf2H := Lib.hid hf2
      clear hZ hg9 hS9 hf2 hA
      go_wp2_with ((with_reducible refine wpl_guard ?_); first | (refine wpl_store_arr rfl 25 _ _ rfl _ rfl _ rfl _ _ hZ9 sPoly (by simp only [u8s_size]) (u8s_oneCell _ _) ?_))
      have hrg := grown_row w9 w.heap.size (u8s 64 f2)
      exact bodyPost_ret (res_tc (x := .int .i64 q) rfl rfl (hZ9.setRow_same (cs := u8s 64 f2)) uPoly sPoly rfl) rfl ⟨_, _, rfl, by omega, by omega, hf2H.out, hS9H.out.step hrg (fun q e => by injection e with e; omega), grown_past hg9H.out hrg (fun q e => by injection e with e; omega)⟩
  · have hA := hA4
    have hZ := hZ4
    have hg := hg4H
    have hS := Lib.hid hS4
    clear hA4 hZ4 hg4H hS4
    have hBd := Lib.hid (fun q => l01Bad_any B g q f w4 hS.out hfH.out)
    have hge := hS.out.ge
    clear hS
    have hp1 : 1 ≤ p := by omega
    all_goals
      go_wp2_with ((with_reducible refine wpl_guard ?_); first | (refine wpl_load_arr rfl 25 _ rfl _ rfl _ _ hA _ _ uPoly sPoly ?_))
      refine (hBd.out _).mono ?_
      rintro e w9 ⟨f2, rfl, hf2, hS9, hg9⟩
      have hZ9 := hZ.grownR hg9 (fun e => by injection e with e; omega)
      have hg9H := Lib.hid (hg.out.trans hg9)
      have hS9H := Lib.hid hS9
      have hf2H := Lib.hid hf2
      clear hZ hg9 hS9 hf2 hA
      go_wp2_with ((with_reducible refine wpl_guard ?_); first | (refine wpl_store_arr rfl 25 _ _ rfl _ rfl _ rfl _ _ hZ9 sPoly (by simp only [u8s_size]) (u8s_oneCell _ _) ?_))
      have hrg := grown_row w9 w.heap.size (u8s 64 f2)
      exact bodyPost_ret (res_tc (x := .int .i64 p) rfl rfl (hZ9.setRow_same (cs := u8s 64 f2)) uPoly sPoly rfl) rfl ⟨_, _, rfl, by omega, by omega, hf2H.out, hS9H.out.step hrg (fun q e => by injection e with e; omega), grown_past hg9H.out hrg (fun q e => by injection e with e; omega)⟩
end Go.Proofs.Ytddgbnkojdmekaa
