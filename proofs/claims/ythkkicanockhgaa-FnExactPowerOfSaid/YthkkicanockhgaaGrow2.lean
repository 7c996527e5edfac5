/- A law: elements of one cell each are appended to a slice of the call's own. -/
import Derived.Test.YthkkicanockhgaaGrow
import Derived.Lib.SliceRun
namespace Go.Proofs.Ythkkicanockhgaa
open Go.RowKit
section
variable {P : Program} {ops : Array Oper} {rest : List Oper} {o : Oper} {a : Act} {w : World} {Q : Exit → Act → World → Prop}
theorem wpl_append_more (hw : Region.wanted o (yielded ops a.tmps) = true) (s x : Operand) (t : TypeId) (hop : o.op = .call { callee := .builtin .append, args := #[s, x], argTypes := #[t, t] })
    (base e : Nat) (z : Value) (size bytes : Nat) (ht : P.underlying t = some (.slice e)) (hinfo : (P.info? e).map (fun i => (i.zero, i.size, i.bytes)) = some (some z, size, bytes))
    (hzs : z.cells.size = size) (hsz : 0 < size) (hby : bytes ≤ 1024)
    (v : Value) (n : Nat) (xs : List Value) (hs : a.eval s = v) (hown : w.ownsRow base e size v n xs)
    (ad : Addr) (m c : Nat) (hx : a.eval x = .slice (some ad) m c) (news : List Value) (hl : news.length = m * size) (hc : ∀ j u, news[j]? = some u → w.cell? (ad.add j) = some u) (h1 : ∀ u ∈ news, u.oneCell' = true)
    (hn : n + m ≤ 100000000000) (hbase : base ≤ w.heap.size)
    (h : ∀ v' w', w'.ownsRow base e size v' (n + m) (xs ++ news) → Below base w w' → wpList P ops Q rest (a.put o.dst v') w') : wpList P ops Q (o :: rest) a w := by
  refine wpl_wanted hw fun K hK => ?_
  obtain ⟨i, hi, hz, hz1, hz2⟩ := info_parts hinfo
  have hb : (n + m) * bytes ≤ 140737488355328 := by
    have : (n + m) * bytes ≤ (n + m) * 1024 := Nat.mul_le_mul_left _ hby
    omega
  obtain ⟨v', w', hr, h2, h3, _⟩ := run_append_own (P := P) w base t o.type e i z size bytes ht hi hz hz1 hz2 hzs hsz v n xs hown ad m c news hl hc h1 (by unfold maxLen; omega) hb hbase
  unfold Oper.wp execOp
  simp only [hop, resolve, invoke, builtin, Sem.run_bind, Sem.run_pure, Result.andThen_ok, List.map_toArray, List.map_cons, List.map_nil, hs, hx, hr]
  exact hK _ _ (h v' w' h2 ((Below.refl base w).grown h3 hbase (owned_ge hown)))

/-- A written-out row of no cells. -/
theorem wpl_buildSlice_void (hw : Region.wanted o (yielded ops a.tmps) = true) (t e : TypeId) (hop : o.op = .buildSlice t 0 #[]) (ht : P.underlying t = some (.slice e)) (hs : (P.info? e).map (·.size) = some 1)
    (h : wpList P ops Q rest (a.put o.dst (.slice (some ⟨w.heap.size, 0, none⟩) 0 0)) (w.alloc (.cells #[] e))) : wpList P ops Q (o :: rest) a w := by
  refine wpl_wanted hw fun K hK => ?_
  have hK := hK _ _ h
  obtain ⟨ie, hie, hse⟩ := Option.map_eq_some_iff.1 hs
  unfold Oper.wp execOp
  simp [hop, Instr.buildSlice, Sem.run_bind, run_underlying ht w, sizeOf, typeInfo, hie, Instr.fill, newRow, newObj, Oper.upon]
  rw [show (Array.range 0).map (fun _ => (default : Value)) = #[] from by apply Array.ext_getElem?; intro i; simp]
  exact hK
/-- A slice compared with nil. -/
theorem wpl_eql_nil (hw : Region.wanted o (yielded ops a.tmps) = true) (t t' e : TypeId) (x y : Operand) (hop : o.op = .binOp .eql t x y t') (oa : Option Addr) (n c : Nat)
    (hx : a.eval x = .slice oa n c) (hy : a.eval y = .slice none 0 0) (ht : P.underlying t = some (.slice e))
    (h : wpList P ops Q rest (a.put o.dst (.bool oa.isNone)) w) : wpList P ops Q (o :: rest) a w := by
  refine wpl_wanted hw fun K hK => ?_
  have hK := hK _ _ h
  have h1 := Go.Lib.run_eql_slice_nil (P := P) w t e oa n c 0 0 ht
  have h2 : (eqGuard .eql t x y (.slice oa n c) (.slice none 0 0)).run P w = .ok () w := by simp [eqGuard, Sem.run_pure]
  unfold Oper.wp execOp
  simp only [hop, hx, hy, Sem.run_bind, h2, Result.andThen_ok, h1]
  exact hK
end
theorem owns_void (w : World) (e : Nat) : (w.alloc (.cells #[] e)).ownsRow w.heap.size e 1 (.slice (some ⟨w.heap.size, 0, none⟩) 0 0) 0 [] :=
  World.ownsRow_lit w #[] 0 (Nat.le_refl _) (by unfold maxLen; omega) rfl
end Go.Proofs.Ythkkicanockhgaa
