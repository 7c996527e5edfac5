/- Laws: polynomials' variables laid and written one after the other; the world behind them under one name. No program in sight. -/
import Derived.Test.YthkkicanockhgaaInv5
namespace Go.Proofs.Ythkkicanockhgaa
open Go.RowKit
theorem put_none' (a : Act) (v : Value) : a.put none v = a := rfl
theorem wanted_none {o : Oper} {y : Nat → Option Bool} (h : o.guard = none) : Region.wanted o y = true := by simp [Region.wanted, h]
section
variable {P : Program} {ops : Array Oper} {rest : List Oper} {a : Act} {w : World} {Q : Exit → Act → World → Prop}
/-- Tried by its name alone: is the goal a list of operations? -/
theorem wpl_guard (h : wpList P ops Q rest a w) : wpList P ops Q rest a w := h

theorem wpl_new1 {o1 s1 : Oper} (T : TypeId) (hz : (P.info? T).bind (·.zero) = some (.agg (u8s 64 fun _ => 0))) (hs : (P.info? T).map (·.size) = some 64)
    (x1 y1 : Operand) (hg1 : o1.guard = none) (hh1 : s1.guard = none) (ha1 : o1.op = .alloc T) (hb1 : s1.op = .store T x1 y1) (hd1 : s1.dst = none)
    (hx1 : (a.put o1.dst (.pointer (some ⟨w.heap.size, 0, none⟩))).eval x1 = .pointer (some ⟨w.heap.size, 0, none⟩)) (f1 : Nat → Int) (hy1 : (a.put o1.dst (.pointer (some ⟨w.heap.size, 0, none⟩))).eval y1 = .agg (u8s 64 f1))
    (h : ∀ w', Below w.heap.size w w' → Blk w' (w.heap.size) (u8s 64 f1) T → wpList P ops Q rest (a.put o1.dst (.pointer (some ⟨w.heap.size, 0, none⟩))) w') : wpList P ops Q (o1 :: s1 :: rest) a w := by
  refine wpl_alloc_arr (wanted_none hg1) T ha1 _ hz ?_
  have hB : Below w.heap.size w (w.alloc (.cells (u8s 64 fun _ => 0) T)) := below_new _ _
  have b1 : Blk (w.alloc (.cells (u8s 64 fun _ => 0) T)) (w.heap.size) (u8s 64 fun _ => 0) T := (Blk.newAt (by simp) (u8s 64 fun _ => 0) T : Blk (w.alloc (.cells (u8s 64 fun _ => 0) T)) (w.heap.size) _ _)
  clear hz
  generalize (w.alloc (.cells (u8s 64 fun _ => 0) T)) = u0 at *
  refine wpl_store_arr (wanted_none hh1) T x1 y1 hb1 (w.heap.size) (by first | exact hx1 | (simp only [hd1, put_none']; exact hx1)) _ (by first | exact hy1 | (simp only [hd1, put_none']; exact hy1)) _ T b1 (by rw [u8s_size]; exact hs) (by rw [u8s_size, u8s_size]) (u8s_oneCell _ _) ?_
  have hB1 := below_setRow hB (show w.heap.size ≤ (w.heap.size) by omega) (u8s 64 f1)
  replace b1 := b1.setRow_same (cs := u8s 64 f1)
  generalize World.setRow _ _ _ = u1 at *
  have := h _ hB1 b1
  simpa only [hd1, put_none'] using this

theorem wpl_new2 {o1 s1 : Oper} {o2 s2 : Oper} (T : TypeId) (hz : (P.info? T).bind (·.zero) = some (.agg (u8s 64 fun _ => 0))) (hs : (P.info? T).map (·.size) = some 64)
    (x1 y1 : Operand) (hg1 : o1.guard = none) (hh1 : s1.guard = none) (ha1 : o1.op = .alloc T) (hb1 : s1.op = .store T x1 y1) (hd1 : s1.dst = none) (x2 y2 : Operand) (hg2 : o2.guard = none) (hh2 : s2.guard = none) (ha2 : o2.op = .alloc T) (hb2 : s2.op = .store T x2 y2) (hd2 : s2.dst = none)
    (hx1 : ((a.put o1.dst (.pointer (some ⟨w.heap.size, 0, none⟩))).put o2.dst (.pointer (some ⟨w.heap.size + 1, 0, none⟩))).eval x1 = .pointer (some ⟨w.heap.size, 0, none⟩)) (f1 : Nat → Int) (hy1 : ((a.put o1.dst (.pointer (some ⟨w.heap.size, 0, none⟩))).put o2.dst (.pointer (some ⟨w.heap.size + 1, 0, none⟩))).eval y1 = .agg (u8s 64 f1)) (hx2 : ((a.put o1.dst (.pointer (some ⟨w.heap.size, 0, none⟩))).put o2.dst (.pointer (some ⟨w.heap.size + 1, 0, none⟩))).eval x2 = .pointer (some ⟨w.heap.size + 1, 0, none⟩)) (f2 : Nat → Int) (hy2 : ((a.put o1.dst (.pointer (some ⟨w.heap.size, 0, none⟩))).put o2.dst (.pointer (some ⟨w.heap.size + 1, 0, none⟩))).eval y2 = .agg (u8s 64 f2))
    (h : ∀ w', Below w.heap.size w w' → Blk w' (w.heap.size) (u8s 64 f1) T → Blk w' (w.heap.size + 1) (u8s 64 f2) T → wpList P ops Q rest ((a.put o1.dst (.pointer (some ⟨w.heap.size, 0, none⟩))).put o2.dst (.pointer (some ⟨w.heap.size + 1, 0, none⟩))) w') : wpList P ops Q (o1 :: o2 :: s1 :: s2 :: rest) a w := by
  refine wpl_alloc_arr (wanted_none hg1) T ha1 _ hz ?_
  refine wpl_alloc_arr (wanted_none hg2) T ha2 _ hz ?_
  rw [size_alloc]
  have hB : Below w.heap.size w ((w.alloc (.cells (u8s 64 fun _ => 0) T)).alloc (.cells (u8s 64 fun _ => 0) T)) := (below_new _ _).alloc (by simp) _
  have b1 : Blk ((w.alloc (.cells (u8s 64 fun _ => 0) T)).alloc (.cells (u8s 64 fun _ => 0) T)) (w.heap.size) (u8s 64 fun _ => 0) T := ((Blk.newAt (by simp) (u8s 64 fun _ => 0) T : Blk (w.alloc (.cells (u8s 64 fun _ => 0) T)) (w.heap.size) _ _).alloc _)
  have b2 : Blk ((w.alloc (.cells (u8s 64 fun _ => 0) T)).alloc (.cells (u8s 64 fun _ => 0) T)) (w.heap.size + 1) (u8s 64 fun _ => 0) T := (Blk.newAt (by simp) (u8s 64 fun _ => 0) T : Blk ((w.alloc (.cells (u8s 64 fun _ => 0) T)).alloc (.cells (u8s 64 fun _ => 0) T)) (w.heap.size + 1) _ _)
  clear hz
  generalize ((w.alloc (.cells (u8s 64 fun _ => 0) T)).alloc (.cells (u8s 64 fun _ => 0) T)) = u0 at *
  refine wpl_store_arr (wanted_none hh1) T x1 y1 hb1 (w.heap.size) (by first | exact hx1 | (simp only [hd1, hd2, put_none']; exact hx1)) _ (by first | exact hy1 | (simp only [hd1, hd2, put_none']; exact hy1)) _ T b1 (by rw [u8s_size]; exact hs) (by rw [u8s_size, u8s_size]) (u8s_oneCell _ _) ?_
  have hB1 := below_setRow hB (show w.heap.size ≤ (w.heap.size) by omega) (u8s 64 f1)
  replace b1 := b1.setRow_same (cs := u8s 64 f1)
  replace b2 := b2.setRow_other (g := (w.heap.size)) (cs := u8s 64 f1) (by omega)
  generalize World.setRow _ _ _ = u1 at *
  refine wpl_store_arr (wanted_none hh2) T x2 y2 hb2 (w.heap.size + 1) (by first | exact hx2 | (simp only [hd1, hd2, put_none']; exact hx2)) _ (by first | exact hy2 | (simp only [hd1, hd2, put_none']; exact hy2)) _ T b2 (by rw [u8s_size]; exact hs) (by rw [u8s_size, u8s_size]) (u8s_oneCell _ _) ?_
  have hB2 := below_setRow hB1 (show w.heap.size ≤ (w.heap.size + 1) by omega) (u8s 64 f2)
  replace b1 := b1.setRow_other (g := (w.heap.size + 1)) (cs := u8s 64 f2) (by omega)
  replace b2 := b2.setRow_same (cs := u8s 64 f2)
  generalize World.setRow _ _ _ = u2 at *
  have := h _ hB2 b1 b2
  simpa only [hd1, hd2, put_none'] using this

theorem wpl_new3 {o1 s1 : Oper} {o2 s2 : Oper} {o3 s3 : Oper} (T : TypeId) (hz : (P.info? T).bind (·.zero) = some (.agg (u8s 64 fun _ => 0))) (hs : (P.info? T).map (·.size) = some 64)
    (x1 y1 : Operand) (hg1 : o1.guard = none) (hh1 : s1.guard = none) (ha1 : o1.op = .alloc T) (hb1 : s1.op = .store T x1 y1) (hd1 : s1.dst = none) (x2 y2 : Operand) (hg2 : o2.guard = none) (hh2 : s2.guard = none) (ha2 : o2.op = .alloc T) (hb2 : s2.op = .store T x2 y2) (hd2 : s2.dst = none) (x3 y3 : Operand) (hg3 : o3.guard = none) (hh3 : s3.guard = none) (ha3 : o3.op = .alloc T) (hb3 : s3.op = .store T x3 y3) (hd3 : s3.dst = none)
    (hx1 : (((a.put o1.dst (.pointer (some ⟨w.heap.size, 0, none⟩))).put o2.dst (.pointer (some ⟨w.heap.size + 1, 0, none⟩))).put o3.dst (.pointer (some ⟨w.heap.size + 1 + 1, 0, none⟩))).eval x1 = .pointer (some ⟨w.heap.size, 0, none⟩)) (f1 : Nat → Int) (hy1 : (((a.put o1.dst (.pointer (some ⟨w.heap.size, 0, none⟩))).put o2.dst (.pointer (some ⟨w.heap.size + 1, 0, none⟩))).put o3.dst (.pointer (some ⟨w.heap.size + 1 + 1, 0, none⟩))).eval y1 = .agg (u8s 64 f1)) (hx2 : (((a.put o1.dst (.pointer (some ⟨w.heap.size, 0, none⟩))).put o2.dst (.pointer (some ⟨w.heap.size + 1, 0, none⟩))).put o3.dst (.pointer (some ⟨w.heap.size + 1 + 1, 0, none⟩))).eval x2 = .pointer (some ⟨w.heap.size + 1, 0, none⟩)) (f2 : Nat → Int) (hy2 : (((a.put o1.dst (.pointer (some ⟨w.heap.size, 0, none⟩))).put o2.dst (.pointer (some ⟨w.heap.size + 1, 0, none⟩))).put o3.dst (.pointer (some ⟨w.heap.size + 1 + 1, 0, none⟩))).eval y2 = .agg (u8s 64 f2)) (hx3 : (((a.put o1.dst (.pointer (some ⟨w.heap.size, 0, none⟩))).put o2.dst (.pointer (some ⟨w.heap.size + 1, 0, none⟩))).put o3.dst (.pointer (some ⟨w.heap.size + 1 + 1, 0, none⟩))).eval x3 = .pointer (some ⟨w.heap.size + 1 + 1, 0, none⟩)) (f3 : Nat → Int) (hy3 : (((a.put o1.dst (.pointer (some ⟨w.heap.size, 0, none⟩))).put o2.dst (.pointer (some ⟨w.heap.size + 1, 0, none⟩))).put o3.dst (.pointer (some ⟨w.heap.size + 1 + 1, 0, none⟩))).eval y3 = .agg (u8s 64 f3))
    (h : ∀ w', Below w.heap.size w w' → Blk w' (w.heap.size) (u8s 64 f1) T → Blk w' (w.heap.size + 1) (u8s 64 f2) T → Blk w' (w.heap.size + 1 + 1) (u8s 64 f3) T → wpList P ops Q rest (((a.put o1.dst (.pointer (some ⟨w.heap.size, 0, none⟩))).put o2.dst (.pointer (some ⟨w.heap.size + 1, 0, none⟩))).put o3.dst (.pointer (some ⟨w.heap.size + 1 + 1, 0, none⟩))) w') : wpList P ops Q (o1 :: o2 :: o3 :: s1 :: s2 :: s3 :: rest) a w := by
  refine wpl_alloc_arr (wanted_none hg1) T ha1 _ hz ?_
  refine wpl_alloc_arr (wanted_none hg2) T ha2 _ hz ?_
  rw [size_alloc]
  refine wpl_alloc_arr (wanted_none hg3) T ha3 _ hz ?_
  rw [size_alloc, size_alloc]
  have hB : Below w.heap.size w (((w.alloc (.cells (u8s 64 fun _ => 0) T)).alloc (.cells (u8s 64 fun _ => 0) T)).alloc (.cells (u8s 64 fun _ => 0) T)) := ((below_new _ _).alloc (by simp) _).alloc (by simp; omega) _
  have b1 : Blk (((w.alloc (.cells (u8s 64 fun _ => 0) T)).alloc (.cells (u8s 64 fun _ => 0) T)).alloc (.cells (u8s 64 fun _ => 0) T)) (w.heap.size) (u8s 64 fun _ => 0) T := (((Blk.newAt (by simp) (u8s 64 fun _ => 0) T : Blk (w.alloc (.cells (u8s 64 fun _ => 0) T)) (w.heap.size) _ _).alloc _).alloc _)
  have b2 : Blk (((w.alloc (.cells (u8s 64 fun _ => 0) T)).alloc (.cells (u8s 64 fun _ => 0) T)).alloc (.cells (u8s 64 fun _ => 0) T)) (w.heap.size + 1) (u8s 64 fun _ => 0) T := ((Blk.newAt (by simp) (u8s 64 fun _ => 0) T : Blk ((w.alloc (.cells (u8s 64 fun _ => 0) T)).alloc (.cells (u8s 64 fun _ => 0) T)) (w.heap.size + 1) _ _).alloc _)
  have b3 : Blk (((w.alloc (.cells (u8s 64 fun _ => 0) T)).alloc (.cells (u8s 64 fun _ => 0) T)).alloc (.cells (u8s 64 fun _ => 0) T)) (w.heap.size + 1 + 1) (u8s 64 fun _ => 0) T := (Blk.newAt (by simp) (u8s 64 fun _ => 0) T : Blk (((w.alloc (.cells (u8s 64 fun _ => 0) T)).alloc (.cells (u8s 64 fun _ => 0) T)).alloc (.cells (u8s 64 fun _ => 0) T)) (w.heap.size + 1 + 1) _ _)
  clear hz
  generalize (((w.alloc (.cells (u8s 64 fun _ => 0) T)).alloc (.cells (u8s 64 fun _ => 0) T)).alloc (.cells (u8s 64 fun _ => 0) T)) = u0 at *
  refine wpl_store_arr (wanted_none hh1) T x1 y1 hb1 (w.heap.size) (by first | exact hx1 | (simp only [hd1, hd2, hd3, put_none']; exact hx1)) _ (by first | exact hy1 | (simp only [hd1, hd2, hd3, put_none']; exact hy1)) _ T b1 (by rw [u8s_size]; exact hs) (by rw [u8s_size, u8s_size]) (u8s_oneCell _ _) ?_
  have hB1 := below_setRow hB (show w.heap.size ≤ (w.heap.size) by omega) (u8s 64 f1)
  replace b1 := b1.setRow_same (cs := u8s 64 f1)
  replace b2 := b2.setRow_other (g := (w.heap.size)) (cs := u8s 64 f1) (by omega)
  replace b3 := b3.setRow_other (g := (w.heap.size)) (cs := u8s 64 f1) (by omega)
  generalize World.setRow _ _ _ = u1 at *
  refine wpl_store_arr (wanted_none hh2) T x2 y2 hb2 (w.heap.size + 1) (by first | exact hx2 | (simp only [hd1, hd2, hd3, put_none']; exact hx2)) _ (by first | exact hy2 | (simp only [hd1, hd2, hd3, put_none']; exact hy2)) _ T b2 (by rw [u8s_size]; exact hs) (by rw [u8s_size, u8s_size]) (u8s_oneCell _ _) ?_
  have hB2 := below_setRow hB1 (show w.heap.size ≤ (w.heap.size + 1) by omega) (u8s 64 f2)
  replace b1 := b1.setRow_other (g := (w.heap.size + 1)) (cs := u8s 64 f2) (by omega)
  replace b2 := b2.setRow_same (cs := u8s 64 f2)
  replace b3 := b3.setRow_other (g := (w.heap.size + 1)) (cs := u8s 64 f2) (by omega)
  generalize World.setRow _ _ _ = u2 at *
  refine wpl_store_arr (wanted_none hh3) T x3 y3 hb3 (w.heap.size + 1 + 1) (by first | exact hx3 | (simp only [hd1, hd2, hd3, put_none']; exact hx3)) _ (by first | exact hy3 | (simp only [hd1, hd2, hd3, put_none']; exact hy3)) _ T b3 (by rw [u8s_size]; exact hs) (by rw [u8s_size, u8s_size]) (u8s_oneCell _ _) ?_
  have hB3 := below_setRow hB2 (show w.heap.size ≤ (w.heap.size + 1 + 1) by omega) (u8s 64 f3)
  replace b1 := b1.setRow_other (g := (w.heap.size + 1 + 1)) (cs := u8s 64 f3) (by omega)
  replace b2 := b2.setRow_other (g := (w.heap.size + 1 + 1)) (cs := u8s 64 f3) (by omega)
  replace b3 := b3.setRow_same (cs := u8s 64 f3)
  generalize World.setRow _ _ _ = u3 at *
  have := h _ hB3 b1 b2 b3
  simpa only [hd1, hd2, hd3, put_none'] using this

theorem wpl_new4 {o1 s1 : Oper} {o2 s2 : Oper} {o3 s3 : Oper} {o4 s4 : Oper} (T : TypeId) (hz : (P.info? T).bind (·.zero) = some (.agg (u8s 64 fun _ => 0))) (hs : (P.info? T).map (·.size) = some 64)
    (x1 y1 : Operand) (hg1 : o1.guard = none) (hh1 : s1.guard = none) (ha1 : o1.op = .alloc T) (hb1 : s1.op = .store T x1 y1) (hd1 : s1.dst = none) (x2 y2 : Operand) (hg2 : o2.guard = none) (hh2 : s2.guard = none) (ha2 : o2.op = .alloc T) (hb2 : s2.op = .store T x2 y2) (hd2 : s2.dst = none) (x3 y3 : Operand) (hg3 : o3.guard = none) (hh3 : s3.guard = none) (ha3 : o3.op = .alloc T) (hb3 : s3.op = .store T x3 y3) (hd3 : s3.dst = none) (x4 y4 : Operand) (hg4 : o4.guard = none) (hh4 : s4.guard = none) (ha4 : o4.op = .alloc T) (hb4 : s4.op = .store T x4 y4) (hd4 : s4.dst = none)
    (hx1 : ((((a.put o1.dst (.pointer (some ⟨w.heap.size, 0, none⟩))).put o2.dst (.pointer (some ⟨w.heap.size + 1, 0, none⟩))).put o3.dst (.pointer (some ⟨w.heap.size + 1 + 1, 0, none⟩))).put o4.dst (.pointer (some ⟨w.heap.size + 1 + 1 + 1, 0, none⟩))).eval x1 = .pointer (some ⟨w.heap.size, 0, none⟩)) (f1 : Nat → Int) (hy1 : ((((a.put o1.dst (.pointer (some ⟨w.heap.size, 0, none⟩))).put o2.dst (.pointer (some ⟨w.heap.size + 1, 0, none⟩))).put o3.dst (.pointer (some ⟨w.heap.size + 1 + 1, 0, none⟩))).put o4.dst (.pointer (some ⟨w.heap.size + 1 + 1 + 1, 0, none⟩))).eval y1 = .agg (u8s 64 f1)) (hx2 : ((((a.put o1.dst (.pointer (some ⟨w.heap.size, 0, none⟩))).put o2.dst (.pointer (some ⟨w.heap.size + 1, 0, none⟩))).put o3.dst (.pointer (some ⟨w.heap.size + 1 + 1, 0, none⟩))).put o4.dst (.pointer (some ⟨w.heap.size + 1 + 1 + 1, 0, none⟩))).eval x2 = .pointer (some ⟨w.heap.size + 1, 0, none⟩)) (f2 : Nat → Int) (hy2 : ((((a.put o1.dst (.pointer (some ⟨w.heap.size, 0, none⟩))).put o2.dst (.pointer (some ⟨w.heap.size + 1, 0, none⟩))).put o3.dst (.pointer (some ⟨w.heap.size + 1 + 1, 0, none⟩))).put o4.dst (.pointer (some ⟨w.heap.size + 1 + 1 + 1, 0, none⟩))).eval y2 = .agg (u8s 64 f2)) (hx3 : ((((a.put o1.dst (.pointer (some ⟨w.heap.size, 0, none⟩))).put o2.dst (.pointer (some ⟨w.heap.size + 1, 0, none⟩))).put o3.dst (.pointer (some ⟨w.heap.size + 1 + 1, 0, none⟩))).put o4.dst (.pointer (some ⟨w.heap.size + 1 + 1 + 1, 0, none⟩))).eval x3 = .pointer (some ⟨w.heap.size + 1 + 1, 0, none⟩)) (f3 : Nat → Int) (hy3 : ((((a.put o1.dst (.pointer (some ⟨w.heap.size, 0, none⟩))).put o2.dst (.pointer (some ⟨w.heap.size + 1, 0, none⟩))).put o3.dst (.pointer (some ⟨w.heap.size + 1 + 1, 0, none⟩))).put o4.dst (.pointer (some ⟨w.heap.size + 1 + 1 + 1, 0, none⟩))).eval y3 = .agg (u8s 64 f3)) (hx4 : ((((a.put o1.dst (.pointer (some ⟨w.heap.size, 0, none⟩))).put o2.dst (.pointer (some ⟨w.heap.size + 1, 0, none⟩))).put o3.dst (.pointer (some ⟨w.heap.size + 1 + 1, 0, none⟩))).put o4.dst (.pointer (some ⟨w.heap.size + 1 + 1 + 1, 0, none⟩))).eval x4 = .pointer (some ⟨w.heap.size + 1 + 1 + 1, 0, none⟩)) (f4 : Nat → Int) (hy4 : ((((a.put o1.dst (.pointer (some ⟨w.heap.size, 0, none⟩))).put o2.dst (.pointer (some ⟨w.heap.size + 1, 0, none⟩))).put o3.dst (.pointer (some ⟨w.heap.size + 1 + 1, 0, none⟩))).put o4.dst (.pointer (some ⟨w.heap.size + 1 + 1 + 1, 0, none⟩))).eval y4 = .agg (u8s 64 f4))
    (h : ∀ w', Below w.heap.size w w' → Blk w' (w.heap.size) (u8s 64 f1) T → Blk w' (w.heap.size + 1) (u8s 64 f2) T → Blk w' (w.heap.size + 1 + 1) (u8s 64 f3) T → Blk w' (w.heap.size + 1 + 1 + 1) (u8s 64 f4) T → wpList P ops Q rest ((((a.put o1.dst (.pointer (some ⟨w.heap.size, 0, none⟩))).put o2.dst (.pointer (some ⟨w.heap.size + 1, 0, none⟩))).put o3.dst (.pointer (some ⟨w.heap.size + 1 + 1, 0, none⟩))).put o4.dst (.pointer (some ⟨w.heap.size + 1 + 1 + 1, 0, none⟩))) w') : wpList P ops Q (o1 :: o2 :: o3 :: o4 :: s1 :: s2 :: s3 :: s4 :: rest) a w := by
  refine wpl_alloc_arr (wanted_none hg1) T ha1 _ hz ?_
  refine wpl_alloc_arr (wanted_none hg2) T ha2 _ hz ?_
  rw [size_alloc]
  refine wpl_alloc_arr (wanted_none hg3) T ha3 _ hz ?_
  rw [size_alloc, size_alloc]
  refine wpl_alloc_arr (wanted_none hg4) T ha4 _ hz ?_
  rw [size_alloc, size_alloc, size_alloc]
  have hB : Below w.heap.size w ((((w.alloc (.cells (u8s 64 fun _ => 0) T)).alloc (.cells (u8s 64 fun _ => 0) T)).alloc (.cells (u8s 64 fun _ => 0) T)).alloc (.cells (u8s 64 fun _ => 0) T)) := (((below_new _ _).alloc (by simp) _).alloc (by simp; omega) _).alloc (by simp; omega) _
  have b1 : Blk ((((w.alloc (.cells (u8s 64 fun _ => 0) T)).alloc (.cells (u8s 64 fun _ => 0) T)).alloc (.cells (u8s 64 fun _ => 0) T)).alloc (.cells (u8s 64 fun _ => 0) T)) (w.heap.size) (u8s 64 fun _ => 0) T := ((((Blk.newAt (by simp) (u8s 64 fun _ => 0) T : Blk (w.alloc (.cells (u8s 64 fun _ => 0) T)) (w.heap.size) _ _).alloc _).alloc _).alloc _)
  have b2 : Blk ((((w.alloc (.cells (u8s 64 fun _ => 0) T)).alloc (.cells (u8s 64 fun _ => 0) T)).alloc (.cells (u8s 64 fun _ => 0) T)).alloc (.cells (u8s 64 fun _ => 0) T)) (w.heap.size + 1) (u8s 64 fun _ => 0) T := (((Blk.newAt (by simp) (u8s 64 fun _ => 0) T : Blk ((w.alloc (.cells (u8s 64 fun _ => 0) T)).alloc (.cells (u8s 64 fun _ => 0) T)) (w.heap.size + 1) _ _).alloc _).alloc _)
  have b3 : Blk ((((w.alloc (.cells (u8s 64 fun _ => 0) T)).alloc (.cells (u8s 64 fun _ => 0) T)).alloc (.cells (u8s 64 fun _ => 0) T)).alloc (.cells (u8s 64 fun _ => 0) T)) (w.heap.size + 1 + 1) (u8s 64 fun _ => 0) T := ((Blk.newAt (by simp) (u8s 64 fun _ => 0) T : Blk (((w.alloc (.cells (u8s 64 fun _ => 0) T)).alloc (.cells (u8s 64 fun _ => 0) T)).alloc (.cells (u8s 64 fun _ => 0) T)) (w.heap.size + 1 + 1) _ _).alloc _)
  have b4 : Blk ((((w.alloc (.cells (u8s 64 fun _ => 0) T)).alloc (.cells (u8s 64 fun _ => 0) T)).alloc (.cells (u8s 64 fun _ => 0) T)).alloc (.cells (u8s 64 fun _ => 0) T)) (w.heap.size + 1 + 1 + 1) (u8s 64 fun _ => 0) T := (Blk.newAt (by simp) (u8s 64 fun _ => 0) T : Blk ((((w.alloc (.cells (u8s 64 fun _ => 0) T)).alloc (.cells (u8s 64 fun _ => 0) T)).alloc (.cells (u8s 64 fun _ => 0) T)).alloc (.cells (u8s 64 fun _ => 0) T)) (w.heap.size + 1 + 1 + 1) _ _)
  clear hz
  generalize ((((w.alloc (.cells (u8s 64 fun _ => 0) T)).alloc (.cells (u8s 64 fun _ => 0) T)).alloc (.cells (u8s 64 fun _ => 0) T)).alloc (.cells (u8s 64 fun _ => 0) T)) = u0 at *
  refine wpl_store_arr (wanted_none hh1) T x1 y1 hb1 (w.heap.size) (by first | exact hx1 | (simp only [hd1, hd2, hd3, hd4, put_none']; exact hx1)) _ (by first | exact hy1 | (simp only [hd1, hd2, hd3, hd4, put_none']; exact hy1)) _ T b1 (by rw [u8s_size]; exact hs) (by rw [u8s_size, u8s_size]) (u8s_oneCell _ _) ?_
  have hB1 := below_setRow hB (show w.heap.size ≤ (w.heap.size) by omega) (u8s 64 f1)
  replace b1 := b1.setRow_same (cs := u8s 64 f1)
  replace b2 := b2.setRow_other (g := (w.heap.size)) (cs := u8s 64 f1) (by omega)
  replace b3 := b3.setRow_other (g := (w.heap.size)) (cs := u8s 64 f1) (by omega)
  replace b4 := b4.setRow_other (g := (w.heap.size)) (cs := u8s 64 f1) (by omega)
  generalize World.setRow _ _ _ = u1 at *
  refine wpl_store_arr (wanted_none hh2) T x2 y2 hb2 (w.heap.size + 1) (by first | exact hx2 | (simp only [hd1, hd2, hd3, hd4, put_none']; exact hx2)) _ (by first | exact hy2 | (simp only [hd1, hd2, hd3, hd4, put_none']; exact hy2)) _ T b2 (by rw [u8s_size]; exact hs) (by rw [u8s_size, u8s_size]) (u8s_oneCell _ _) ?_
  have hB2 := below_setRow hB1 (show w.heap.size ≤ (w.heap.size + 1) by omega) (u8s 64 f2)
  replace b1 := b1.setRow_other (g := (w.heap.size + 1)) (cs := u8s 64 f2) (by omega)
  replace b2 := b2.setRow_same (cs := u8s 64 f2)
  replace b3 := b3.setRow_other (g := (w.heap.size + 1)) (cs := u8s 64 f2) (by omega)
  replace b4 := b4.setRow_other (g := (w.heap.size + 1)) (cs := u8s 64 f2) (by omega)
  generalize World.setRow _ _ _ = u2 at *
  refine wpl_store_arr (wanted_none hh3) T x3 y3 hb3 (w.heap.size + 1 + 1) (by first | exact hx3 | (simp only [hd1, hd2, hd3, hd4, put_none']; exact hx3)) _ (by first | exact hy3 | (simp only [hd1, hd2, hd3, hd4, put_none']; exact hy3)) _ T b3 (by rw [u8s_size]; exact hs) (by rw [u8s_size, u8s_size]) (u8s_oneCell _ _) ?_
  have hB3 := below_setRow hB2 (show w.heap.size ≤ (w.heap.size + 1 + 1) by omega) (u8s 64 f3)
  replace b1 := b1.setRow_other (g := (w.heap.size + 1 + 1)) (cs := u8s 64 f3) (by omega)
  replace b2 := b2.setRow_other (g := (w.heap.size + 1 + 1)) (cs := u8s 64 f3) (by omega)
  replace b3 := b3.setRow_same (cs := u8s 64 f3)
  replace b4 := b4.setRow_other (g := (w.heap.size + 1 + 1)) (cs := u8s 64 f3) (by omega)
  generalize World.setRow _ _ _ = u3 at *
  refine wpl_store_arr (wanted_none hh4) T x4 y4 hb4 (w.heap.size + 1 + 1 + 1) (by first | exact hx4 | (simp only [hd1, hd2, hd3, hd4, put_none']; exact hx4)) _ (by first | exact hy4 | (simp only [hd1, hd2, hd3, hd4, put_none']; exact hy4)) _ T b4 (by rw [u8s_size]; exact hs) (by rw [u8s_size, u8s_size]) (u8s_oneCell _ _) ?_
  have hB4 := below_setRow hB3 (show w.heap.size ≤ (w.heap.size + 1 + 1 + 1) by omega) (u8s 64 f4)
  replace b1 := b1.setRow_other (g := (w.heap.size + 1 + 1 + 1)) (cs := u8s 64 f4) (by omega)
  replace b2 := b2.setRow_other (g := (w.heap.size + 1 + 1 + 1)) (cs := u8s 64 f4) (by omega)
  replace b3 := b3.setRow_other (g := (w.heap.size + 1 + 1 + 1)) (cs := u8s 64 f4) (by omega)
  replace b4 := b4.setRow_same (cs := u8s 64 f4)
  generalize World.setRow _ _ _ = u4 at *
  have := h _ hB4 b1 b2 b3 b4
  simpa only [hd1, hd2, hd3, hd4, put_none'] using this

theorem wpl_sto1 {s1 : Oper} (T : TypeId) (hs : (P.info? T).map (·.size) = some 64)
    (x1 y1 : Operand) (hh1 : s1.guard = none) (hb1 : s1.op = .store T x1 y1) (hd1 : s1.dst = none) (g1 : Nat) (hx1 : a.eval x1 = .pointer (some ⟨g1, 0, none⟩)) (f1 : Nat → Int) (hy1 : a.eval y1 = .agg (u8s 64 f1)) (r1 : Nat → Int) (b1 : Blk w g1 (u8s 64 r1) T)
    (h : ∀ w', Blk w' g1 (u8s 64 f1) T → (∀ k cs t, k ≠ g1 → Blk w k cs t → Blk w' k cs t) → (∀ B u, Below B u w → B ≤ g1 → Below B u w') → wpList P ops Q rest a w') : wpList P ops Q (s1 :: rest) a w := by
  refine wpl_store_arr (wanted_none hh1) T x1 y1 hb1 g1 (by first | exact hx1 | (simp only [hd1, put_none']; exact hx1)) _ (by first | exact hy1 | (simp only [hd1, put_none']; exact hy1)) _ T b1 (by rw [u8s_size]; exact hs) (by rw [u8s_size, u8s_size]) (u8s_oneCell _ _) ?_
  have c1 := b1.setRow_same (cs := u8s 64 f1)
  have := h _ c1 (fun k cs t q1 hb => hb.setRow_other q1) (fun B u hb q1 => below_setRow (hb) q1 _)
  simpa only [hd1, put_none'] using this

theorem wpl_sto2 {s1 : Oper} {s2 : Oper} (T : TypeId) (hs : (P.info? T).map (·.size) = some 64)
    (x1 y1 : Operand) (hh1 : s1.guard = none) (hb1 : s1.op = .store T x1 y1) (hd1 : s1.dst = none) (g1 : Nat) (hx1 : a.eval x1 = .pointer (some ⟨g1, 0, none⟩)) (f1 : Nat → Int) (hy1 : a.eval y1 = .agg (u8s 64 f1)) (r1 : Nat → Int) (b1 : Blk w g1 (u8s 64 r1) T) (x2 y2 : Operand) (hh2 : s2.guard = none) (hb2 : s2.op = .store T x2 y2) (hd2 : s2.dst = none) (g2 : Nat) (hx2 : a.eval x2 = .pointer (some ⟨g2, 0, none⟩)) (f2 : Nat → Int) (hy2 : a.eval y2 = .agg (u8s 64 f2)) (r2 : Nat → Int) (b2 : Blk w g2 (u8s 64 r2) T)
    (hne12 : g1 ≠ g2)
    (h : ∀ w', Blk w' g1 (u8s 64 f1) T → Blk w' g2 (u8s 64 f2) T → (∀ k cs t, k ≠ g1 → k ≠ g2 → Blk w k cs t → Blk w' k cs t) → (∀ B u, Below B u w → B ≤ g1 → B ≤ g2 → Below B u w') → wpList P ops Q rest a w') : wpList P ops Q (s1 :: s2 :: rest) a w := by
  refine wpl_store_arr (wanted_none hh1) T x1 y1 hb1 g1 (by first | exact hx1 | (simp only [hd1, hd2, put_none']; exact hx1)) _ (by first | exact hy1 | (simp only [hd1, hd2, put_none']; exact hy1)) _ T b1 (by rw [u8s_size]; exact hs) (by rw [u8s_size, u8s_size]) (u8s_oneCell _ _) ?_
  have c1 := b1.setRow_same (cs := u8s 64 f1)
  replace b2 := b2.setRow_other (g := g1) (cs := u8s 64 f1) (Ne.symm hne12)
  refine wpl_store_arr (wanted_none hh2) T x2 y2 hb2 g2 (by first | exact hx2 | (simp only [hd1, hd2, put_none']; exact hx2)) _ (by first | exact hy2 | (simp only [hd1, hd2, put_none']; exact hy2)) _ T b2 (by rw [u8s_size]; exact hs) (by rw [u8s_size, u8s_size]) (u8s_oneCell _ _) ?_
  replace c1 := c1.setRow_other (g := g2) (cs := u8s 64 f2) hne12
  have c2 := b2.setRow_same (cs := u8s 64 f2)
  have := h _ c1 c2 (fun k cs t q1 q2 hb => (hb.setRow_other q1).setRow_other q2) (fun B u hb q1 q2 => below_setRow (below_setRow (hb) q1 _) q2 _)
  simpa only [hd1, hd2, put_none'] using this

theorem wpl_sto3 {s1 : Oper} {s2 : Oper} {s3 : Oper} (T : TypeId) (hs : (P.info? T).map (·.size) = some 64)
    (x1 y1 : Operand) (hh1 : s1.guard = none) (hb1 : s1.op = .store T x1 y1) (hd1 : s1.dst = none) (g1 : Nat) (hx1 : a.eval x1 = .pointer (some ⟨g1, 0, none⟩)) (f1 : Nat → Int) (hy1 : a.eval y1 = .agg (u8s 64 f1)) (r1 : Nat → Int) (b1 : Blk w g1 (u8s 64 r1) T) (x2 y2 : Operand) (hh2 : s2.guard = none) (hb2 : s2.op = .store T x2 y2) (hd2 : s2.dst = none) (g2 : Nat) (hx2 : a.eval x2 = .pointer (some ⟨g2, 0, none⟩)) (f2 : Nat → Int) (hy2 : a.eval y2 = .agg (u8s 64 f2)) (r2 : Nat → Int) (b2 : Blk w g2 (u8s 64 r2) T) (x3 y3 : Operand) (hh3 : s3.guard = none) (hb3 : s3.op = .store T x3 y3) (hd3 : s3.dst = none) (g3 : Nat) (hx3 : a.eval x3 = .pointer (some ⟨g3, 0, none⟩)) (f3 : Nat → Int) (hy3 : a.eval y3 = .agg (u8s 64 f3)) (r3 : Nat → Int) (b3 : Blk w g3 (u8s 64 r3) T)
    (hne12 : g1 ≠ g2) (hne13 : g1 ≠ g3) (hne23 : g2 ≠ g3)
    (h : ∀ w', Blk w' g1 (u8s 64 f1) T → Blk w' g2 (u8s 64 f2) T → Blk w' g3 (u8s 64 f3) T → (∀ k cs t, k ≠ g1 → k ≠ g2 → k ≠ g3 → Blk w k cs t → Blk w' k cs t) → (∀ B u, Below B u w → B ≤ g1 → B ≤ g2 → B ≤ g3 → Below B u w') → wpList P ops Q rest a w') : wpList P ops Q (s1 :: s2 :: s3 :: rest) a w := by
  refine wpl_store_arr (wanted_none hh1) T x1 y1 hb1 g1 (by first | exact hx1 | (simp only [hd1, hd2, hd3, put_none']; exact hx1)) _ (by first | exact hy1 | (simp only [hd1, hd2, hd3, put_none']; exact hy1)) _ T b1 (by rw [u8s_size]; exact hs) (by rw [u8s_size, u8s_size]) (u8s_oneCell _ _) ?_
  have c1 := b1.setRow_same (cs := u8s 64 f1)
  replace b2 := b2.setRow_other (g := g1) (cs := u8s 64 f1) (Ne.symm hne12)
  replace b3 := b3.setRow_other (g := g1) (cs := u8s 64 f1) (Ne.symm hne13)
  refine wpl_store_arr (wanted_none hh2) T x2 y2 hb2 g2 (by first | exact hx2 | (simp only [hd1, hd2, hd3, put_none']; exact hx2)) _ (by first | exact hy2 | (simp only [hd1, hd2, hd3, put_none']; exact hy2)) _ T b2 (by rw [u8s_size]; exact hs) (by rw [u8s_size, u8s_size]) (u8s_oneCell _ _) ?_
  replace c1 := c1.setRow_other (g := g2) (cs := u8s 64 f2) hne12
  have c2 := b2.setRow_same (cs := u8s 64 f2)
  replace b3 := b3.setRow_other (g := g2) (cs := u8s 64 f2) (Ne.symm hne23)
  refine wpl_store_arr (wanted_none hh3) T x3 y3 hb3 g3 (by first | exact hx3 | (simp only [hd1, hd2, hd3, put_none']; exact hx3)) _ (by first | exact hy3 | (simp only [hd1, hd2, hd3, put_none']; exact hy3)) _ T b3 (by rw [u8s_size]; exact hs) (by rw [u8s_size, u8s_size]) (u8s_oneCell _ _) ?_
  replace c1 := c1.setRow_other (g := g3) (cs := u8s 64 f3) hne13
  replace c2 := c2.setRow_other (g := g3) (cs := u8s 64 f3) hne23
  have c3 := b3.setRow_same (cs := u8s 64 f3)
  have := h _ c1 c2 c3 (fun k cs t q1 q2 q3 hb => ((hb.setRow_other q1).setRow_other q2).setRow_other q3) (fun B u hb q1 q2 q3 => below_setRow (below_setRow (below_setRow (hb) q1 _) q2 _) q3 _)
  simpa only [hd1, hd2, hd3, put_none'] using this

/-- A variable is written with what another one holds: a whole region. -/
theorem wp_copy {id : Nat} {o1 o2 : Oper} {s : Nat} (T : TypeId) (hg1 : o1.guard = none) (hg2 : o2.guard = none) (x y : Operand) (h1 : o1.op = .load T x) (h2 : o2.op = .store T y (.tmp s)) (hd1 : o1.dst = some s) (hd2 : o2.dst = none)
    {gx gy tx e : Nat} {f r : Nat → Int} (hbx : Blk w gx (u8s 64 f) tx) (hby : Blk w gy (u8s 64 r) T) (hx : a.eval x = .pointer (some ⟨gx, 0, none⟩)) (hy : (a.put (some s) (.agg (u8s 64 f))).eval y = .pointer (some ⟨gy, 0, none⟩)) (hsl : decide (s < a.tmps.size) = true)
    (hu : P.underlying T = some (.array 64 e)) (hs : (P.info? T).map (·.size) = some 64)
    (h : ∀ w', Blk w' gy (u8s 64 f) T → (∀ k cs t, k ≠ gy → Blk w k cs t → Blk w' k cs t) → (∀ B u, Below B u w → B ≤ gy → Below B u w') → Q .normal (a.put (some s) (.agg (u8s 64 f))) w') : (Code.region id #[o1, o2] false).wp P Q a w := by
  refine wp_region_lit (l := [o1, o2]) ?_
  refine wpl_load_arr (wanted_none hg1) T x h1 gx hx _ _ hbx _ _ hu (by rw [u8s_size]; exact hs) ?_
  rw [hd1]
  have hv : (a.put (some s) (.agg (u8s 64 f))).eval (.tmp s) = .agg (u8s 64 f) := by
    have := put_get_same a (.agg (u8s 64 f)) s (of_decide_eq_true hsl)
    simp [Act.eval, this]
  exact wpl_sto1 T hs y (.tmp s) hg2 h2 hd2 gy hy f hv r hby fun w' k1 k2 k3 => h w' k1 k2 k3

end
section
variable {P : Program} {fn : Func} {tmps : Array Value} {w : World}
theorem res_ccct {p p2 p3 u : Tmp} {ty ty2 ty3 n e n2 e2 n3 e3 : TypeId} (h : fn.results = #[.cell p ty, .cell p2 ty2, .cell p3 ty3, .tmp u]) {g t g2 t2 g3 t3 : Nat} {cs cs2 cs3 : Array Value} (hp : tmps.getD p undef = .pointer (some ⟨g, 0, none⟩)) (hb : Blk w g cs t)
    (hu : P.underlying ty = some (.array n e)) (hi : (P.info? ty).map (·.size) = some cs.size) (hp2 : tmps.getD p2 undef = .pointer (some ⟨g2, 0, none⟩)) (hb2 : Blk w g2 cs2 t2)
    (hu2 : P.underlying ty2 = some (.array n2 e2)) (hi2 : (P.info? ty2).map (·.size) = some cs2.size) (hp3 : tmps.getD p3 undef = .pointer (some ⟨g3, 0, none⟩)) (hb3 : Blk w g3 cs3 t3)
    (hu3 : P.underlying ty3 = some (.array n3 e3)) (hi3 : (P.info? ty3).map (·.size) = some cs3.size) {x : Value} (hx : tmps.getD u undef = x) : (results fn tmps).run P w = .ok (.tuple #[.agg cs, .agg cs2, .agg cs3, x]) w := by
  have hp' : tmps[p]?.getD undef = .pointer (some ⟨g, 0, none⟩) := by simpa using hp
  have hp2' : tmps[p2]?.getD undef = .pointer (some ⟨g2, 0, none⟩) := by simpa using hp2
  have hp3' : tmps[p3]?.getD undef = .pointer (some ⟨g3, 0, none⟩) := by simpa using hp3
  have hx' : tmps[u]?.getD undef = x := by simpa using hx
  simp [results, h, hp', hp2', hp3', hx', asAddr, run_loadVar_row w g t ty cs _ _ hb hu rfl hi, run_loadVar_row w g2 t2 ty2 cs2 _ _ hb2 hu2 rfl hi2, run_loadVar_row w g3 t3 ty3 cs3 _ _ hb3 hu3 rfl hi3]
theorem res_ccc {p p2 p3 : Tmp} {ty ty2 ty3 n e n2 e2 n3 e3 : TypeId} (h : fn.results = #[.cell p ty, .cell p2 ty2, .cell p3 ty3]) {g t g2 t2 g3 t3 : Nat} {cs cs2 cs3 : Array Value} (hp : tmps.getD p undef = .pointer (some ⟨g, 0, none⟩)) (hb : Blk w g cs t)
    (hu : P.underlying ty = some (.array n e)) (hi : (P.info? ty).map (·.size) = some cs.size) (hp2 : tmps.getD p2 undef = .pointer (some ⟨g2, 0, none⟩)) (hb2 : Blk w g2 cs2 t2)
    (hu2 : P.underlying ty2 = some (.array n2 e2)) (hi2 : (P.info? ty2).map (·.size) = some cs2.size) (hp3 : tmps.getD p3 undef = .pointer (some ⟨g3, 0, none⟩)) (hb3 : Blk w g3 cs3 t3)
    (hu3 : P.underlying ty3 = some (.array n3 e3)) (hi3 : (P.info? ty3).map (·.size) = some cs3.size) : (results fn tmps).run P w = .ok (.tuple #[.agg cs, .agg cs2, .agg cs3]) w := by
  have hp' : tmps[p]?.getD undef = .pointer (some ⟨g, 0, none⟩) := by simpa using hp
  have hp2' : tmps[p2]?.getD undef = .pointer (some ⟨g2, 0, none⟩) := by simpa using hp2
  have hp3' : tmps[p3]?.getD undef = .pointer (some ⟨g3, 0, none⟩) := by simpa using hp3
  simp [results, h, hp', hp2', hp3', asAddr, run_loadVar_row w g t ty cs _ _ hb hu rfl hi, run_loadVar_row w g2 t2 ty2 cs2 _ _ hb2 hu2 rfl hi2, run_loadVar_row w g3 t3 ty3 cs3 _ _ hb3 hu3 rfl hi3]
end
end Go.Proofs.Ythkkicanockhgaa
