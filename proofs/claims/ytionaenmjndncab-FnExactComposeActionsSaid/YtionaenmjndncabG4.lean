/- Walks: the program's code of two lists. -/
import Derived.Test.YtionaenmjndncabG3
set_option linter.unusedVariables false
set_option linter.unusedSimpArgs false
namespace Go.Proofs.Ytionaenmjndncab
open Go.RowKit
section
variable {P : Program} {ops : Array Oper} {rest : List Oper} {o : Oper} {a : Act} {w : World} {Q : Exit → Act → World → Prop}
/-- A literal of two slices. -/
theorem wpl_two_slices (hw : Region.wanted o (yielded ops a.tmps) = true) (t e : TypeId) (x y : Operand) (hop : o.op = .buildSlice t 2 #[(0, x), (1, y)]) (ht : P.underlying t = some (.slice e)) (hs : (P.info? e).map (·.size) = some 1)
    (hz : (P.info? e).bind (·.zero) = some (.slice none 0 0)) (oa ob : Option Addr) (n m c d : Nat) (hx : a.eval x = .slice oa n c) (hy : a.eval y = .slice ob m d)
    (h : wpList P ops Q rest (a.put o.dst (.slice (some ⟨w.heap.size, 0, none⟩) 2 2)) (w.alloc (.cells #[.slice oa n c, .slice ob m d] e))) : wpList P ops Q (o :: rest) a w := by
  refine wpl_wanted hw fun K hK => ?_
  have hK := hK _ _ h
  obtain ⟨ie, hie, hse⟩ := Option.map_eq_some_iff.1 hs
  have hz2 : ie.zero = some (.slice none 0 0) := by rw [hie] at hz; exact hz
  unfold Oper.wp execOp
  simp [hop, hx, hy, Instr.buildSlice, Sem.run_bind, run_underlying ht w, sizeOf, typeInfo, hie, hse, zeroValue, hz2, Instr.fill, newRow, newObj, Oper.upon, Value.cells]
  have e1 : (((Array.map (fun x => ([Value.slice none 0 0] : List Value)[x % 1]?.getD default) (Array.range 2)).setIfInBounds 0 (Value.slice oa n c)).setIfInBounds 1 (Value.slice ob m d)) = #[Value.slice oa n c, Value.slice ob m d] := by
    apply Array.ext_getElem?
    intro j
    match j with
    | 0 => simp [Array.getElem?_setIfInBounds]
    | 1 => simp [Array.getElem?_setIfInBounds]
    | j + 2 => simp [Array.getElem?_setIfInBounds]
  rw [e1]
  exact hK
end
theorem uPolySS : Try.prog.underlying 100 = some (.slice 29) := by kernel_rfl
theorem sPolyS1 : (Try.prog.info? 29).map (·.size) = some 1 := by kernel_rfl
theorem zPolyS1 : (Try.prog.info? 29).bind (·.zero) = some (.slice none 0 0) := by kernel_rfl
theorem AllP_cat (na nb : Nat) (F G : Nat → Int) (p : Int) : AllP (na + nb) (catF na F G) p ↔ AllP na F p ∧ AllP nb G p := by
  constructor
  · intro h
    refine ⟨fun j hj => ?_, fun j hj => ?_⟩
    · have := h j (by omega)
      unfold catF at this; rwa [if_pos hj] at this
    · have := h (na * 64 + j) (by omega)
      unfold catF at this; rwa [if_neg (by omega), show na * 64 + j - na * 64 = j by omega] at this
  · intro h j hj
    unfold catF
    by_cases h1 : j < na * 64
    · rw [if_pos h1]; exact h.1 j h1
    · rw [if_neg h1]; exact h.2 _ (by omega)
set_option maxRecDepth 20000 in
set_option maxHeartbeats 1000000 in
theorem listsCode_any (ga gb na nb ca cb BA BB : Nat) (F G : Nat → Int) (p : Int) (w : World) (hF : By F) (hG : By G) (ha : Fl w BA (.slice (some ⟨ga, 0, none⟩) na ca) na F) (hb : Fl w BB (.slice (some ⟨gb, 0, none⟩) nb cb) nb G) (hna : na ≤ 10000000) (hnb : nb ≤ 10000000)
    (b c : Bool) (hbb : GoodL p na nb F G ↔ b = true) (hc : decide (na ≤ 7 ∧ nb ≤ 7) = c) :
    Calls Try.prog 44 #[.int .i64 p, .slice (some ⟨ga, 0, none⟩) na ca, .slice (some ⟨gb, 0, none⟩) nb cb] w fun e w' => e = .returned (.int .i64 (lcode b c)) ∧ Below w.heap.size w w' := by
  have hn0 := below_new w (.cells #[.slice (some ⟨ga, 0, none⟩) na ca, .slice (some ⟨gb, 0, none⟩) nb cb] 29)
  have H1 := Lib.hid (concatP_any ga gb w.heap.size na nb ca cb BA BB F G _ (ha.below hn0) (hb.below hn0) (Blk.new w _ _) hna hnb)
  have H2 := Lib.hid (fun oa cap w (h : CellsAt w oa ((na + nb) * 64) (fun j => .int .u8 (catF na F G j))) => polysCode_any (catF na F G) (na + nb) cap oa p w (fun j _ => by unfold catF; split; exact hF _; exact hG _) (by omega) h b (by rw [← hbb, AllP_cat]; rfl))
  have hcH := Lib.hid hc
  clear ha hb hF hG hbb hc
  go_enter Try.func44, Try.ntmps44
  go_wp2_with (first | (refine wpl_two_slices rfl 100 29 _ _ rfl uPolySS sPolyS1 zPolyS1 _ _ _ _ _ _ rfl rfl ?_))
  refine H1.out.mono ?_
  rintro e w1 ⟨v, rfl, hv, hn⟩
  obtain ⟨ov, cv, rfl, hcv⟩ := hv.at
  have hcvH := Lib.hid hcv
  have hn1 := below_step hn0 hn
  clear hv hcv hn hn0
  go_wp2_with fail
  refine (H2.out ov cv _ hcvH.out).mono ?_
  rintro e w2 ⟨rfl, hn2⟩
  have hn3 := below_step hn1 hn2
  clear hn1 hn2
  cases b
  · have hg : (codeOf false != 0) = true := rfl
    go_wp2_with fail
    go_ret
    exact ⟨rfl, hn3⟩
  · have hg : (codeOf true != 0) = false := rfl
    cases c
    · have hcc := of_decide_eq_false hcH.out
      by_cases h7 : na ≤ 7
      · have h8 : ¬ nb ≤ 7 := fun h => hcc ⟨h7, h⟩
        clear hcc
        go_wp2_with fail
        go_ret
        exact ⟨rfl, hn3⟩
      · clear hcc
        go_wp2_with fail
        go_ret
        exact ⟨rfl, hn3⟩
    · have hcc := of_decide_eq_true hcH.out
      have h7 := hcc.1
      have h8 := hcc.2
      clear hcc
      go_wp2_with fail
      go_ret
      exact ⟨rfl, hn3⟩
end Go.Proofs.Ytionaenmjndncab
