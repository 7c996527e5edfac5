/- Walks: texts of polynomials on both sides. -/
import Derived.Test.YtnkkkgaojhkniaaRws
set_option linter.unusedVariables false
set_option linter.unusedSimpArgs false
namespace Go.Proofs.Ytnkkkgaojhkniaa
open Go.RowKit

/-- The digits of a list of coefficients, the last one first. -/
def digs (xs : List Int) : List Int := xs.reverse.map fun c => 48 + c
/-- The text of a polynomial. -/
def txt (xs : List Int) : ByteArray := if xs = [] then strOfNums [48] else strOfNums (digs xs)
theorem digs_drop (xs : List Int) (k : Nat) (h : k < xs.length) : digs (xs.drop k) = digs (xs.drop (k + 1)) ++ [48 + cf xs k] := by
  rw [List.drop_eq_getElem_cons h, cf_lt xs k h]
  simp only [digs, List.reverse_cons, List.map_append, List.map_cons, List.map_nil]

theorem iByte : (Try.prog.info? 5).map (fun i => (i.zero, i.size, i.bytes)) = some (some (.int .u8 0), 1, 1) := by kernel_rfl

section
variable {P : Program} {ops : Array Oper} {rest : List Oper} {o : Oper} {a : Act} {w : World} {Q : Exit → Act → World → Prop}
/-- 'string(bytes)' of a row of the call's own. -/
theorem wpl_string_own (hw : Region.wanted o (yielded ops a.tmps) = true) (src dst e : TypeId) (x : Operand) (hop : o.op = .convert src dst x)
    (hs : P.underlying src = some (.slice e)) (he : P.underlying e = some (.int .u8)) (hd : P.underlying dst = some .string)
    (base n : Nat) (v : Value) (ns : List Int) (hx : a.eval x = v) (hn : ns.length = n) (hown : w.ownsRow base e 1 v n (ns.map (Value.int .u8)))
    (h : wpList P ops Q rest (a.put o.dst (.string (strOfNums ns))) w) : wpList P ops Q (o :: rest) a w := by
  refine wpl_wanted hw fun K hK => ?_
  have hK := hK _ _ h
  have hr : (convert src dst v).run P w = .ok (.string (strOfNums ns)) w := by
    rcases hown with ⟨_, ⟨rfl, h0⟩ | ⟨g, cap, cur, rfl, hg, hb, h1, h2, h3, h4⟩⟩
    · obtain rfl : ns = [] := List.eq_nil_of_length_eq_zero (by omega)
      exact run_convert_bytes_nil w src e hs he 0 0 dst hd
    · refine run_convert_bytes_arg w src e hs he g 0 n cap ns hn (fun i hi => ?_) dst hd
      rw [cell_of_row w g (0 + i) cur e _ hb, Nat.zero_add]
      have h5 : (cur.toList.take (n * 1))[i]? = some (.int .u8 (ns.getD i 0)) := by
        rw [h4, List.getElem?_map, List.getD_eq_getElem?_getD, List.getElem?_eq_getElem (by omega)]; rfl
      rw [List.getElem?_take, if_pos (by omega)] at h5
      simpa using h5
  unfold Oper.wp execOp
  simp only [hop, hx, Sem.run_bind, hr, Result.andThen_ok]
  exact hK

/-- '[]byte{}': a row of no cells. -/
theorem wpl_buildSlice_none (hw : Region.wanted o (yielded ops a.tmps) = true) (t e : TypeId) (hop : o.op = .buildSlice t 0 #[]) (ht : P.underlying t = some (.slice e)) (hs : (P.info? e).map (·.size) = some 1)
    (h : wpList P ops Q rest (a.put o.dst (.slice (some ⟨w.heap.size, 0, none⟩) 0 0)) (w.alloc (.cells #[] e))) : wpList P ops Q (o :: rest) a w := by
  refine wpl_wanted hw fun K hK => ?_
  have hK := hK _ _ h
  obtain ⟨ie, hie, hse⟩ := Option.map_eq_some_iff.1 hs
  unfold Oper.wp execOp
  simp [hop, Instr.buildSlice, Sem.run_bind, run_underlying ht w, sizeOf, typeInfo, hie, hse, Instr.fill, newRow, newObj, Oper.upon]
  rw [show (Array.range 0).map (fun _ => (default : Value)) = #[] from by apply Array.ext_getElem?; intro i; simp]
  exact hK
end

set_option maxHeartbeats 1000000 in
theorem text_any (v : Value) (xs : List Int) (w : World) (h : IsRow w v xs) (hx : ∀ i, 0 ≤ cf xs i ∧ cf xs i ≤ 6) (hL0 : xs.length ≤ 1000) :
    Calls Try.prog 47 #[v] w fun e w' => e = .returned (.string (txt xs)) ∧ Below w.heap.size w w' := by
  obtain ⟨oa, cap, rfl, hle, hcap, hcell⟩ := h
  have hxH := Lib.hid hx
  have hcellH := Lib.hid hcell
  clear hcell hx hcap
  by_cases hnil : xs.length = 0
  · have e0 : txt xs = strOfNums [48] := by unfold txt; rw [if_pos (List.length_eq_zero_iff.1 hnil)]
    rw [e0]
    clear e0
    rw [hnil] at hcellH hle ⊢
    go_enter Try.func47, Try.ntmps47
    go_wp2
    go_ret
    exact ⟨rfl, Below.refl _ _⟩
  · have e0 : txt xs = strOfNums (digs xs) := by unfold txt; rw [if_neg (fun e => hnil (by rw [e]; rfl))]
    rw [e0]
    clear e0
    generalize hL : xs.length = L at *
    have hLH := Lib.hid hL
    clear hL
    have hnz : ((L : Int) == 0) = false := by rw [beq_eq_false_iff_ne]; omega
    go_enter Try.func47, Try.ntmps47
    go_wp2_with fail
    go_loopw [3, 4] (fun t i wr => ∃ (k : Nat), k ≤ L ∧ i = .int .i64 ((k : Int) - 1) ∧ wr.ownsRow w.heap.size 5 1 t (L - k) ((digs (xs.drop k)).map (Value.int .u8)) ∧ Below w.heap.size w wr) (fun _ i _ => (intOf i + 1).toNat)
    case atStart => exact ⟨L, Nat.le_refl _, rfl, by rw [List.drop_of_length_le (by rw [hLH.out]; exact Nat.le_refl _), Nat.sub_self]; exact World.ownsRow_nil _ _ _ _, Below.refl _ _⟩
    case round =>
      obtain ⟨k, hk, hi, hown, hb⟩ := hrel
      have hownH := Lib.hid hown
      clear hown
      have hsz := hb.size
      by_cases h0 : k = 0
      · subst h0
        simp only [Int.natCast_zero, Int.zero_sub] at hi
        subst hi
        have hdl : (digs xs).length = L - 0 := by unfold digs; rw [List.length_map, List.length_reverse, hLH.out]; rfl
        have hdlH := Lib.hid hdl
        clear hdl
        go_wp2_with (refine wpl_string_own rfl 87 9 5 _ rfl Try.underlying87 Try.underlying5 Try.underlying9 w.heap.size (L - 0) _ (digs xs) rfl hdlH.out hownH.out ?_)
        go_ret
        exact ⟨rfl, hb⟩
      · obtain ⟨m, rfl⟩ : ∃ m, k = m + 1 := ⟨k - 1, by omega⟩
        rw [show (((m + 1 : Nat) : Int) - 1) = (m : Int) by omega] at hi
        subst hi
        obtain ⟨bb, off, rfl, hcl⟩ := hcellH.out (by omega)
        have c0 := cell_below (hcl m (by omega)) hb
        have hlt0 : bb < w.heap.size := block_lt_of_cell (hcl m (by omega))
        clear hcl
        have hz := hxH.out m
        have hz1 := hz.1
        have hz2 := hz.2
        clear hz
        have hn := Lib.hid (digs_drop xs m (by rw [hLH.out]; omega))
        have hown2 := Lib.hid (hownH.out.alloc (.cells #[.int .u8 (48 + cf xs m)] 5))
        go_wp2_with (at_builtin; refine wpl_append_one rfl _ _ 87 rfl w.heap.size 5 (.int .u8 0) 1 1 Try.underlying87 iByte rfl (by decide) (by decide) _ (L - (m + 1)) _ rfl hown2.out wr.heap.size rfl [.int .u8 (48 + cf xs m)] rfl (one_new _ _ _) (by intro u hu; rw [List.mem_singleton] at hu; subst hu; rfl) (by omega) (by simp; omega) ?_)
        intro v' w2 hown3 hb2
        have hown4 : w2.ownsRow w.heap.size 5 1 v' (L - m) ((digs (xs.drop m)).map (Value.int .u8)) := by
          rw [hn.out, List.map_append, show L - m = L - (m + 1) + 1 by omega]; exact hown3
        have hown4H := Lib.hid hown4
        have hb3 := (hb.alloc (by omega) (.cells #[.int .u8 (48 + cf xs m)] 5)).trans hb2
        clear hown3 hown4 hb2
        go_wp2
        go_roundw
        case rel => exact ⟨m, by omega, by go_num, hown4H.out, hb3⟩
        case measure => simp [intOf] <;> omega

set_option maxHeartbeats 1000000 in
theorem l01Text_any (f : Nat → Int) (w : World) (hf : ∀ i, 0 ≤ f i ∧ f i ≤ 6) :
    Calls Try.prog 63 #[.agg (u8s 64 f)] w fun e w' => e = .returned (.string (txt (mkp 64 f))) ∧ Below w.heap.size w w' := by
  have hf' : By f := fun i => ⟨(hf i).1, by have := (hf i).2; omega⟩
  have hlen := mkp_length 64 f
  have hcl : ∀ i, i < (mkp 64 f).length → cf (mkp 64 f) i = f i := fun i hi => by rw [mkp_cf, if_pos (by omega)]
  have hclH := Lib.hid hcl
  have hfH := Lib.hid hf
  have hfH' := Lib.hid hf'
  clear hf hf' hcl
  have hB0 := Blk.new w (u8s 64 f) 33
  have hB := hB0.alloc (.cells #[] 5)
  have hb0 := (below_new w (.cells (u8s 64 f) 33)).alloc (by simp) (.cells #[] 5)
  have hown : ((w.alloc (.cells (u8s 64 f) 33)).alloc (.cells #[] 5)).ownsRow (w.heap.size + 1) 5 1 (.slice (some ⟨w.heap.size + 1, 0, none⟩) 0 0) 0 [] := by
    have := World.ownsRow_made (w.alloc (.cells (u8s 64 f) 33)) (base := w.heap.size + 1) (e := 5) (size := 1) #[] 0 (by simp) (by unfold maxLen; omega) rfl
    simpa using this
  clear hB0
  go_enter Try.func63, Try.ntmps63
  go_wp2_with (first | (refine wpl_buildSlice_none rfl 87 5 rfl Try.underlying87 sByte ?_) | (refine wpl_load_arr rfl 33 _ rfl _ rfl _ _ hB _ _ uPoly sPoly ?_))
  refine (l01Deg_any f _ hfH'.out.on).mono ?_
  rintro e w1 ⟨rfl, hb1⟩
  have hb2 := below_step hb0 hb1
  have hB1 := hB.keep hb1
  have hown1 : w1.ownsRow (w.heap.size + 1) 5 1 (.slice (some ⟨w.heap.size + 1, 0, none⟩) 0 0) 0 [] := by
    obtain ⟨h1, h2 | ⟨g, cap, cur, hv, hg, hbk, h3⟩⟩ := hown
    · exact ⟨h1, Or.inl h2⟩
    · exact ⟨h1, Or.inr ⟨g, cap, cur, hv, hg, (Blk.keep hbk hb1), h3⟩⟩
  clear hB hb0 hb1 hown
  generalize hX : mkp 64 f = xs at *
  have hXH := Lib.hid hX
  clear hX
  generalize hL : xs.length = L at *
  have hLH := Lib.hid hL
  clear hL
  have hsz1 := hB1.lt
  have hown1H := Lib.hid hown1
  clear hown1
  go_wp2_with fail
  go_loopw [3, 4] (fun t i wr => ∃ (k : Nat), k ≤ L ∧ i = .int .i64 ((k : Int) - 1) ∧ wr.ownsRow (w.heap.size + 1) 5 1 t (L - k) ((digs (xs.drop k)).map (Value.int .u8)) ∧ Blk wr w.heap.size (u8s 64 f) 33 ∧ Below w.heap.size w wr ∧ w.heap.size + 1 ≤ wr.heap.size) (fun _ i _ => (intOf i + 1).toNat)
  case atStart => exact ⟨L, Nat.le_refl _, rfl, by rw [List.drop_of_length_le (by rw [hLH.out]; exact Nat.le_refl _), Nat.sub_self]; exact hown1H.out, hB1, hb2, by omega⟩
  case round =>
    obtain ⟨k, hk, hi, hown, b1, hb, hsz⟩ := hrel
    have hownH := Lib.hid hown
    clear hown
    by_cases h0 : k = 0
    · subst h0
      simp only [Int.natCast_zero, Int.zero_sub] at hi
      subst hi
      have hdl : (digs xs).length = L - 0 := by unfold digs; rw [List.length_map, List.length_reverse, hLH.out]; rfl
      have hdlH := Lib.hid hdl
      clear hdl
      have hlv : ∃ oa cap, u3 = .slice oa L cap := by
        rcases hownH.out.2 with ⟨h1, h2⟩ | ⟨g, cap, cur, h1, _⟩
        · exact ⟨none, 0, by rw [h1, show L = 0 by omega]⟩
        · exact ⟨_, cap, by rw [h1]; rfl⟩
      obtain ⟨oa, cap, rfl⟩ := hlv
      by_cases hz : L = 0
      · subst hz
        go_wp2_with fail
        go_ret
        have hX := hXH.out
        subst hX
        refine ⟨?_, hb⟩
        unfold txt; rw [if_pos (List.length_eq_zero_iff.1 hLH.out)]; rfl
      · have hnz : ((L : Int) == 0) = false := by rw [beq_eq_false_iff_ne]; omega
        go_wp2_with (refine wpl_string_own rfl 87 9 5 _ rfl Try.underlying87 Try.underlying5 Try.underlying9 (w.heap.size + 1) (L - 0) _ (digs xs) rfl hdlH.out hownH.out ?_)
        go_ret
        have hX := hXH.out
        subst hX
        refine ⟨?_, hb⟩
        unfold txt; rw [if_neg (fun e => hz (by rw [← hLH.out, e]; rfl))]; rfl
    · obtain ⟨m, rfl⟩ : ∃ m, k = m + 1 := ⟨k - 1, by omega⟩
      rw [show (((m + 1 : Nat) : Int) - 1) = (m : Int) by omega] at hi
      subst hi
      have c0 : wr.cell? ⟨w.heap.size, m, none⟩ = some (.int .u8 (cf xs m)) := by rw [b1.cell, u8s_get _ (by omega), hclH.out m (by omega)]
      have hz := hfH.out m
      rw [← hclH.out m (by omega)] at hz
      have hz1 := hz.1
      have hz2 := hz.2
      clear hz
      have hn := Lib.hid (digs_drop xs m (by rw [hLH.out]; omega))
      have hown2 := Lib.hid (hownH.out.alloc (.cells #[.int .u8 (48 + cf xs m)] 5))
      go_wp2_with (at_builtin; refine wpl_append_one rfl _ _ 87 rfl (w.heap.size + 1) 5 (.int .u8 0) 1 1 Try.underlying87 iByte rfl (by decide) (by decide) _ (L - (m + 1)) _ rfl hown2.out wr.heap.size rfl [.int .u8 (48 + cf xs m)] rfl (one_new _ _ _) (by intro u hu; rw [List.mem_singleton] at hu; subst hu; rfl) (by omega) (by simp; omega) ?_)
      intro v' w2 hown3 hbb2
      have hown4 : w2.ownsRow (w.heap.size + 1) 5 1 v' (L - m) ((digs (xs.drop m)).map (Value.int .u8)) := by
        rw [hn.out, List.map_append, show L - m = L - (m + 1) + 1 by omega]; exact hown3
      have hown4H := Lib.hid hown4
      have hb3 := (hb.alloc (by omega) (.cells #[.int .u8 (48 + cf xs m)] 5)).trans (hbb2.mono (by omega))
      have b3 := (b1.alloc (.cells #[.int .u8 (48 + cf xs m)] 5)).below hbb2 (by omega)
      have hsz3 : w.heap.size + 1 ≤ w2.heap.size := by have := hbb2.size; simp at this; omega
      clear hown3 hown4 hbb2
      go_wp2
      go_roundw
      case rel => exact ⟨m, by omega, by go_num, hown4H.out, b3, hb3, hsz3⟩
      case measure => simp [intOf] <;> omega

end Go.Proofs.Ytnkkkgaojhkniaa
