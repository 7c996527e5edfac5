/- Walks: the codes of polynomials with a modulus. -/
import Derived.Test.YtnkkkgaojhkniabE1
set_option linter.unusedVariables false
set_option linter.unusedSimpArgs false
namespace Go.Proofs.Ytnkkkgaojhkniab
open Go.RowKit

theorem Mon_range {m : List Int} (c : Bool) (hc : decide (Mon m) = c) (h1 : cf m (m.length - 1) = 1) : decide (1 ≤ (m.length : Int) - 1 ∧ (m.length : Int) - 1 ≤ 5) = c := by
  rw [← hc]; apply decide_eq_decide.2
  constructor
  · intro h; exact ⟨h1, by omega, by omega⟩
  · intro h; have := h.2; omega

theorem Good_cons {p : Int} {f : Nat → Int} {fs : List (Nat → Int)} : Good p (f :: fs) ↔ Good p [f] ∧ AllP fs.length (polysF fs) p := by
  rw [AllP_polysF]
  unfold Good
  constructor
  · intro h; exact ⟨⟨h.1, fun g hg => h.2 g (by rw [List.mem_singleton.1 hg]; simp)⟩, fun g hg => h.2 g (List.mem_cons_of_mem _ hg)⟩
  · intro h; refine ⟨h.1.1, fun g hg => ?_⟩
    rcases List.mem_cons.1 hg with rfl | h2
    · exact h.1.2 _ (by simp)
    · exact h.2 g h2
theorem iPoly : (Try.prog.info? 25).map (fun i => (i.zero, i.size, i.bytes)) = some (some (.agg (u8s 64 fun _ => 0)), 64, 64) := by kernel_rfl
theorem polysF_snoc (fs : List (Nat → Int)) (f : Nat → Int) (j : Nat) : polysF (fs ++ [f]) j = if j < fs.length * 64 then polysF fs j else if j < (fs.length + 1) * 64 then f (j - fs.length * 64) else 0 := by
  unfold polysF
  by_cases h : j < fs.length * 64
  · rw [if_pos h, List.getD_eq_getElem?_getD, List.getD_eq_getElem?_getD, List.getElem?_append_left (by omega)]
  · rw [if_neg h, List.getD_eq_getElem?_getD]
    by_cases h2 : j < (fs.length + 1) * 64
    · rw [if_pos h2, show j / 64 = fs.length by omega, List.getElem?_append_right (Nat.le_refl _), Nat.sub_self, show j % 64 = j - fs.length * 64 by omega]; rfl
    · rw [if_neg h2, List.getElem?_eq_none (by simp; omega)]; rfl
/-- The cells of a list of polynomials with one more. -/
theorem polys_snoc_cells (fs : List (Nat → Int)) (f : Nat → Int) (n N : Nat) (hn : fs.length = n) (hN : N = n * 64) :
    ((List.range N).map fun j => Value.int .u8 (polysF fs j)) ++ (List.range 64).map (fun j => Value.int .u8 (f j)) = (List.range ((n + 1) * 64)).map fun j => Value.int .u8 (polysF (fs ++ [f]) j) := by
  subst hn hN
  apply List.ext_getElem?
  intro j
  rw [List.getElem?_append]
  simp only [List.length_map, List.length_range, List.getElem?_map]
  by_cases h : j < fs.length * 64
  · rw [if_pos h, List.getElem?_range h, List.getElem?_range (by omega)]
    simp only [Option.map_some]
    rw [polysF_snoc, if_pos h]
  · rw [if_neg h]
    by_cases h2 : j < (fs.length + 1) * 64
    · rw [List.getElem?_range (by omega), List.getElem?_range h2]
      simp only [Option.map_some]
      rw [polysF_snoc, if_neg h, if_pos h2]
    · rw [List.getElem?_eq_none (by simp; omega), List.getElem?_eq_none (by simp; omega)]; rfl
theorem Blk.grown {w w' : World} {k : Nat} {cs : Array Value} {t : TypeId} {row : Option Nat} (h : Blk w k cs t) (hg : w.grownBy w' row) (hne : some k ≠ row) : Blk w' k cs t := by
  unfold Blk; rw [hg.block k h.lt hne]; exact h
section
variable {P : Program} {ops : Array Oper} {rest : List Oper} {o : Oper} {a : Act} {w : World} {Q : Exit → Act → World → Prop}
/-- One element is appended; what of the memory is written. -/
theorem wpl_append_grow (hw : Region.wanted o (yielded ops a.tmps) = true) (s x : Operand) (t : TypeId) (hop : o.op = .call { callee := .builtin .append, args := #[s, x], argTypes := #[t, t] })
    (base e : Nat) (z : Value) (size bytes : Nat) (ht : P.underlying t = some (.slice e)) (hinfo : (P.info? e).map (fun i => (i.zero, i.size, i.bytes)) = some (some z, size, bytes))
    (hzs : z.cells.size = size) (hsz : 0 < size) (hby : bytes ≤ 1024)
    (v : Value) (n : Nat) (xs : List Value) (hs : a.eval s = v) (hown : w.ownsRow base e size v n xs)
    (ad : Addr) (m c : Nat) (hx : a.eval x = .slice (some ad) m c) (news : List Value) (hl : news.length = m * size) (hc : ∀ j u, news[j]? = some u → w.cell? (ad.add j) = some u) (h1 : ∀ u ∈ news, u.oneCell' = true)
    (hn : n + m ≤ 100000000000) (hbase : base ≤ w.heap.size)
    (h : ∀ v' w', w'.ownsRow base e size v' (n + m) (xs ++ news) → w.grownBy w' v.ownBlock → wpList P ops Q rest (a.put o.dst v') w') : wpList P ops Q (o :: rest) a w := by
  refine wpl_wanted hw fun K hK => ?_
  obtain ⟨i, hi, hz, hz1, hz2⟩ := info_parts hinfo
  have hb : (n + m) * bytes ≤ 140737488355328 := by
    have : (n + m) * bytes ≤ (n + m) * 1024 := Nat.mul_le_mul_left _ hby
    omega
  obtain ⟨v', w', hr, h2, h3, _⟩ := run_append_own (P := P) w base t o.type e i z size bytes ht hi hz hz1 hz2 hzs hsz v n xs hown ad m c news hl hc h1 (by unfold maxLen; omega) hb hbase
  unfold Oper.wp execOp
  simp only [hop, resolve, invoke, builtin, Sem.run_bind, Sem.run_pure, Result.andThen_ok, List.map_toArray, List.map_cons, List.map_nil, hs, hx, hr]
  exact hK _ _ (h v' w' h2 h3)
end
theorem addr_add (g j : Nat) : (⟨g, 0, none⟩ : Addr).add j = ⟨g, j, none⟩ := by unfold Addr.add; split <;> simp_all
theorem owns_form {w : World} {base size n : Nat} {e : TypeId} {v : Value} {xs : List Value} (h : w.ownsRow base e size v n xs) (hn : 0 < n) : ∃ g cap, v = .slice (some ⟨g, 0, none⟩) n cap ∧ base ≤ g := by
  rcases h.2 with ⟨_, h2⟩ | ⟨g, cap, cur, h1, h2, _⟩
  · omega
  · exact ⟨g, cap, h1, h2⟩
theorem Good_snoc {p : Int} {f : Nat → Int} {fs : List (Nat → Int)} : Good p (fs ++ [f]) ↔ Good p (f :: fs) := by
  unfold Good
  constructor
  · intro h; refine ⟨h.1, fun g hg => h.2 g ?_⟩
    rcases List.mem_cons.1 hg with rfl | h2 <;> simp [*]
  · intro h; refine ⟨h.1, fun g hg => h.2 g ?_⟩
    rcases List.mem_append.1 hg with h2 | h2
    · exact List.mem_cons_of_mem _ h2
    · rw [List.mem_singleton.1 h2]; simp

end Go.Proofs.Ytnkkkgaojhkniab
