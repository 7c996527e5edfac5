/- Walks: the invariant factors of a matrix, the program's. -/
import Derived.Test.YtnkkkgaojhkniabMtC
set_option linter.unusedVariables false
set_option linter.unusedSimpArgs false
namespace Go.Proofs.Ytnkkkgaojhkniab
open Go.RowKit
theorem iLin : (Try.prog.info? 49).map (fun i => (i.zero, i.size, i.bytes)) = some (some (.slice none 0 0), 1, 24) := by kernel_rfl
theorem iEnt : (Try.prog.info? 55).map (fun i => (i.zero, i.size, i.bytes)) = some (some (.slice none 0 0), 1, 24) := by kernel_rfl
theorem updR_same {α : Type} (M : Nat → Nat → α) (i j : Nat) {v : α} (h : v = M i j) : updR M i j v = M := by
  funext x y; unfold updR; split
  · rename_i e; rw [e.1, e.2]; exact h
  · rfl
/-- An entry of T times the unit matrix less a matrix. -/
def entM (p : Int) (Ms : Nat → List Int) : MxL := fun i j => if i = j then addp p (addp p [] [cf (Ms i) j] (-1)) [0, 1] 1 else addp p [] [cf (Ms i) j] (-1)
theorem entM_Po {p : Int} (hp : Pr p) (Ms : Nat → List Int) (i j : Nat) : Po p (entM p Ms i j) := by
  have hp2 := hp.pos
  unfold entM; split <;> exact addp_Po (by omega) _ _ _
theorem entM_len {p : Int} (Ms : Nat → List Int) (i j : Nat) : (entM p Ms i j).length ≤ 2 := by
  have h1 := addp_length p [] [cf (Ms i) j] (-1)
  have h2 := addp_length p (addp p [] [cf (Ms i) j] (-1)) [0, 1] 1
  simp only [List.length_nil, List.length_cons] at h1 h2
  unfold entM; split <;> omega
theorem entM_ne {p : Int} (hp : Pr p) (Ms : Nat → List Int) (n : Nat) : ¬ AllMinK (Dv p pzero) (· < n) n (cfm (entM p Ms)) := by
  have hp2 := hp.pos
  refine char_ne hp (fun i j _ _ => (Ln.of_list p _).le (entM_len Ms i j)) (fun i j _ _ hne => ?_) fun i _ => ?_
  · refine (Ln.of_list p _).le ?_
    unfold entM; rw [if_neg hne]
    have h1 := addp_length p [] [cf (Ms i) j] (-1)
    simpa using h1
  · show cf (entM p Ms i i) 1 % p = 1 % p
    unfold entM; rw [if_pos rfl, addp_cf, addp_cf, cf_nil]
    have e1 : cf [cf (Ms i) i] 1 = 0 := by simp [cf]
    have e2 : cf [0, 1] 1 = 1 := by simp [cf]
    rw [e1, e2]
    simp
theorem Sm.start {p : Int} (hp : Pr p) (Ms : Nat → List Int) (n : Nat) : Sm p n (cfm (entM p Ms)) 0 (entM p Ms) :=
  ⟨fun i j _ _ => entM_Po hp Ms i j, .refl, Bnd.start fun i j _ _ => (Ln.of_list p _).le (entM_len Ms i j), fun i h => absurd h (by omega), fun i h => absurd h (by omega), fun i h => absurd h (by omega)⟩
/-- The least number with a property. -/
theorem least_of (P : Nat → Prop) (h : ∃ m, P m) : ∃ m, P m ∧ ∀ k, P k → m ≤ k := by
  obtain ⟨m, hm⟩ := h
  induction m using Nat.strongRecOn with
  | _ m ih =>
    by_cases e : ∃ k, k < m ∧ P k
    · obtain ⟨k, hk, hP⟩ := e; exact ih k hk hP
    · exact ⟨m, hm, fun k hk => Nat.le_of_not_lt fun hl => e ⟨k, hl, hk⟩⟩
open Classical in
noncomputable def leastN (P : Nat → Prop) : Nat := if h : ∃ m, P m then Classical.choose (least_of P h) else 0
theorem leastN_spec {P : Nat → Prop} (h : ∃ m, P m) : P (leastN P) ∧ ∀ k, P k → leastN P ≤ k := by
  unfold leastN
  rw [dif_pos h]
  exact Classical.choose_spec (least_of P h)
set_option maxHeartbeats 400000 in
theorem letterM_any (w : World) : Calls Try.prog 62 #[] w fun e w' => ∃ v, e = .returned v ∧ IsRow w' v [0, 1] ∧ Below w.heap.size w w' := by
  have hB := Blk.new w #[Value.int .i64 0, Value.int .i64 1] 2
  have hrow : IsRow (w.alloc (.cells #[Value.int .i64 0, Value.int .i64 1] 2)) (.slice (some ⟨w.heap.size, 0, none⟩) 2 2) [0, 1] := by
    refine ⟨some ⟨w.heap.size, 0, none⟩, 2, rfl, by simp, by unfold maxLen; omega, fun _ => ⟨_, 0, rfl, fun i hi => ?_⟩⟩
    rw [hB.cell, Nat.zero_add]
    simp only [List.length_cons, List.length_nil] at hi
    rcases i with _ | _ | i
    · rfl
    · rfl
    · omega
  have hrowH := Lib.hid hrow
  clear hrow hB
  go_enter Try.func62, Try.ntmps62
  go_wp2_with fail
  go_ret
  exact ⟨_, rfl, hrowH.out, below_new _ _⟩
theorem rowOne_new (w : World) (z : Int) : IsRow (w.alloc (.cells #[.int .i64 z] 2)) (.slice (some ⟨w.heap.size, 0, none⟩) 1 1) [z] := by
  refine ⟨some ⟨w.heap.size, 0, none⟩, 1, rfl, by simp, by unfold maxLen; omega, fun _ => ⟨_, 0, rfl, fun i hi => ?_⟩⟩
  rw [(Blk.new w #[.int .i64 z] 2).cell, Nat.zero_add]
  simp only [List.length_cons, List.length_nil] at hi
  rcases i with _ | i
  · rfl
  · omega
theorem grown_low {B base : Nat} {e q : Nat} {w0 w w' : World} {v : Value} {R : Nat → Value} (hb : Below B w0 w) (hL : LineB w base e v q R) (hB : B ≤ base) (hBs : B ≤ w.heap.size) (hg : w.grownBy w' v.ownBlock) : Below B w0 w' :=
  hb.trans ⟨hg.os, hg.tape, hg.output, hg.size, fun k hk => hg.block k (by omega) (fun e => by have := (hL.lt e.symm).2; omega)⟩
theorem zEnt : (Try.prog.info? 55).bind (·.zero) = some (.slice none 0 0) := by kernel_rfl
/-- A matrix stays where another list grows. -/
theorem MatB.grownL {w w' : World} {B U g n : Nat} {b c : Nat → Nat} {R : Nat → Nat → Value} {M : MxL} {v : Value} {q base e : Nat} {Ro : Nat → Value} (h : MatB w B U g n b c R M) (hL : LineB w base e v q Ro) (hU : U ≤ base) (hg : w.grownBy w' v.ownBlock) : MatB w' B U g n b c R M := by
  have hk : ∀ k, k < U → k < w.heap.size → w'.heap[k]? = w.heap[k]? := fun k h1 h2 => hg.block k h2 fun e => by have := (hL.lt e.symm).2; omega
  refine ⟨?_, h.hg, h.hb, h.up, h.upb, h.cap, h.inj, fun i hi => ?_, h.sl, fun i j hi hj => (h.row i j hi hj).growL hL hg⟩
  · unfold Blk; rw [hk g h.up h.out.lt]; exact h.out
  · unfold Blk; rw [hk (b i) (h.upb i hi) (h.inn i hi).lt]; exact h.inn i hi
section
variable {P : Program} {Q : Exit → Act → World → Prop} {o : Oper} {a : Act} {w : World}
theorem wp_assign_any {K : Act → World → Prop} (x : Operand) (ho : o.op = .assign x) (h : K (a.put o.dst (a.eval x)) w) : o.wp P a w K Q := by
  unfold Oper.wp execOp
  simp [ho, Oper.upon]
  exact h
end
def invPost (p : Int) (n : Nat) (A : Nat → Nat → PS) (w : World) (e : Ending) (w' : World) : Prop :=
  ∃ (v : Value) (R : Nat → Value) (M : MxL), e = .returned v ∧ LineB w' w.heap.size 55 v n R ∧ (∀ i, i < n → IsRow w' (R i) (monic p (M i i))) ∧ Sm p n A n M ∧ Below w.heap.size w w'
set_option maxRecDepth 20000 in
set_option maxHeartbeats 8000000 in
theorem invariants_any (vs : Value) (n : Nat) (Ms : Nat → List Int) (p : Int) (w : World) (hp : Pr p) (hn0 : 0 < n) (hn : n ≤ 6) (hs : IsRows w vs n Ms) (hMs : ∀ i j, i < n → 0 ≤ cf (Ms i) j ∧ cf (Ms i) j < p) :
    Calls Try.prog 31 #[.int .i64 p, vs] w (invPost p n (cfm (entM p Ms)) w) := by
  have hp2 := hp.pos
  have hpH := Lib.hid hp
  have hMsH := Lib.hid hMs
  obtain ⟨Rs, os, cs, rfl, hles, hcs, hRc, hRr⟩ := hs
  obtain ⟨bs, fs, rfl, hRc2⟩ := hRc hn0
  have hRcH := Lib.hid hRc2
  have hRrH := Lib.hid hRr
  clear hMs hRc hRc2 hRr hp
  have hnI : (n : Int) ≤ 6 := by omega
  have hn1 : (0 : Int) < (n : Int) := by omega
  go_enter Try.func31, Try.ntmps31
  go_upto_region 2 with ((with_reducible refine wpl_guard ?_); first | (refine wpl_make_any rfl 77 49 _ _ rfl (.slice none 0 0) 24 (by decide) uMatT iLin rfl .i64 .i64 _ _ n rfl rfl rfl rfl (by omega) ?_))
  have hB0 := BldB.start w n (fun _ _ => .slice none 0 0) (entM p Ms)
  have hb0 := below_new w (.cells (arr n fun _ => .slice none 0 0) 49)
  go_wp2_with fail
  go_loopw [21] (fun iv wr => ∃ (r : Nat) (L : Nat → Value) (ln : Nat → Nat) (R : Nat → Nat → Value), r ≤ n ∧ iv = .int .i64 (r : Int) ∧ BldB wr w.heap.size w.heap.size n L ln R (entM p Ms) ∧ (∀ i, i < r → ln i = n) ∧ (∀ i, r ≤ i → ln i = 0) ∧ Below w.heap.size w wr) (fun iv _ => n - (intOf iv).toNat)
  case atStart => exact ⟨0, _, _, _, by omega, rfl, hB0, fun i h => absurd h (by omega), fun _ _ => rfl, hb0⟩
  case round =>
    clear hB0 hb0
    obtain ⟨r, L, ln, R, hr, rfl, hB, hl1, hl2, hb⟩ := hrel
    rename World => w0
    by_cases hrn : r < n
    · have hrI : (r : Int) < (n : Int) := by omega
      have c0 := cell_below (hRcH.out r hrn) hb
      obtain ⟨os1, cs1, hRse⟩ := (hRrH.out r hrn).form
      obtain ⟨l1, hl1e⟩ : ∃ l, (Ms r).length = l := ⟨_, rfl⟩
      rw [hl1e] at hRse
      rw [hRse] at c0
      have hRow := Lib.hid (by have := (hRrH.out r hrn).below hb; rw [hRse] at this; exact this : IsRow w0 (.slice os1 l1 cs1) (Ms r))
      clear hl1e hRse
      have hl1H := Lib.hid hl1
      have hl2H := Lib.hid (fun i (h : r < i) => hl2 i (by omega))
      have hlr := hl2 r (Nat.le_refl r)
      clear hl1 hl2
      go_wp2_with fail
      go_loopw [28] (fun jv wr => ∃ (q : Nat) (L : Nat → Value) (ln : Nat → Nat) (R : Nat → Nat → Value), q ≤ n ∧ jv = .int .i64 (q : Int) ∧ BldB wr w.heap.size w.heap.size n L ln R (entM p Ms) ∧ Hid (∀ i, i < r → ln i = n) ∧ Hid (∀ i, r < i → ln i = 0) ∧ ln r = q ∧ Hid (IsRow wr (.slice os1 l1 cs1) (Ms r)) ∧ Below w.heap.size w wr) (fun jv _ => n - (intOf jv).toNat)
      case atStart => exact ⟨0, L, ln, R, by omega, rfl, hB, hl1H, hl2H, hlr, hRow, hb⟩
      case round =>
        clear hB hb hl1H hl2H hlr hRow c0
        obtain ⟨q, L, ln, R, hq, rfl, hB, hl1, hl2, hlr, hRow, hb⟩ := hrel
        by_cases hqn : q < n
        · have hqI : (q : Int) < (n : Int) := by omega
          have hc0 := hMsH.out r q hrn
          obtain ⟨z, hz⟩ : ∃ z, cf (Ms r) q = z := ⟨_, rfl⟩
          rw [hz] at hc0
          obtain ⟨hz0, hz1⟩ := hc0
          have hent := Lib.hid (show entM p Ms r q = if r = q then addp p (addp p [] [z] (-1)) [0, 1] 1 else addp p [] [z] (-1) by unfold entM; rw [hz])
          have hat := Lib.hid (fun (w2 : World) (h : IsRow w2 (.slice os1 l1 cs1) (Ms r)) => (by have := at_any _ _ q w2 h (by omega); rw [hz] at this; exact this : Calls Try.prog 60 #[.slice os1 l1 cs1, .int .i64 q] w2 fun e w' => e = .returned (.int .i64 z) ∧ w2 = w'))
          have hsc := Lib.hid (fun (w2 : World) (va : Value) (h : IsRow w2 va [z]) => scale_any va [z] p (-1) w2 hpH.out h (fun i => by
            cases i with
            | zero => rw [cf_cons_zero]; exact ⟨hz0, hz1⟩
            | succ i => rw [cf_cons_succ, cf_nil]; omega) (by decide) (by decide) (by simp))
          clear hz
          go_wp2_with fail
          refine (hat.out _ hRow.out).mono ?_
          rintro e w1 ⟨rfl, rfl⟩
          rename World => w1
          have hz1r := rowOne_new w1 z
          have hn := below_new w1 (.cells #[.int .i64 z] 2)
          replace hB := hB.below hn
          replace hRow := Lib.hid (hRow.out.below hn)
          replace hb := below_step hb hn
          clear hn hat
          go_wp2_with fail
          refine (hsc.out _ _ hz1r).mono ?_
          rintro e w2 ⟨v2, rfl, hr2, hn⟩
          obtain ⟨o9, c9, rfl⟩ := hr2.form
          replace hB := hB.below hn
          replace hRow := Lib.hid (hRow.out.below hn)
          replace hb := below_step hb hn
          clear hn hz1r hsc
          obtain ⟨l9, hl9⟩ : ∃ l, (addp p [] [z] (-1)).length = l := ⟨_, rfl⟩
          rw [hl9] at hr2 ⊢
          clear hl9
          by_cases hrq : r = q
          · have hrqb : ((r : Int) == (q : Int)) = true := by rw [hrq]; exact beq_self_eq_true _
            have hcm := Lib.hid (fun (w3 : World) (va vb : Value) (h1 : IsRow w3 va (addp p [] [z] (-1))) (h2 : IsRow w3 vb [0, 1]) => combine_any va vb _ _ p 1 w3 hpH.out h1 h2 (addp_Po (by omega) _ _ _).md (letter_Po hp2.1).md (by decide) (by decide) (by have := addp_length p [] [z] (-1); simp at this; omega) (by simp))
            have hrqH := Lib.hid hrq
            clear hrq
            go_wp2_with fail
            refine (letterM_any _).mono ?_
            rintro e w3 ⟨v3, rfl, hr3, hn⟩
            replace hr2 := hr2.below hn
            replace hB := hB.below hn
            replace hRow := Lib.hid (hRow.out.below hn)
            replace hb := below_step hb hn
            clear hn
            go_wp2_with fail
            refine (hcm.out _ _ _ hr2 hr3).mono ?_
            rintro e w4 ⟨v4, rfl, hr4, hn⟩
            replace hB := hB.below hn
            replace hRow := Lib.hid (hRow.out.below hn)
            replace hb := below_step hb hn
            clear hn hr2 hr3 hcm
            have hE := Lib.hid (by rw [hent.out, if_pos hrqH.out]; exact hr4 : IsRow w4 v4 (entM p Ms r q))
            clear hr4 hent
            obtain ⟨o9, c9, hE2⟩ := hE.out.form
            subst hE2
            obtain ⟨l9, hl9⟩ : ∃ l, (entM p Ms r q).length = l := ⟨_, rfl⟩
            rw [hl9] at hE ⊢
            clear hl9
            obtain ⟨oL, mL, kL, hLe⟩ := hB.sl r
            have c5 := hB.cell hrn
            rw [hLe] at c5
            have hn := below_new w4 (.cells #[.slice o9 l9 c9] 55)
            have hB1 := hB.below hn
            have hLn := hB1.line r hrn
            rw [hLe, hlr] at hLn
            have hLnH := Lib.hid hLn
            have hcc := Lib.hid ((Blk.new w4 #[.slice o9 l9 c9] 55).cell 0)
            have hbs := Lib.hid (Nat.le_trans hb.size hn.size)
            have hBH := Lib.hid hB1
            have hE1 := Lib.hid (hE.out.below hn)
            have hRow1 := Lib.hid (hRow.out.below hn)
            have hb1 := Lib.hid (below_step hb hn)
            have hLeH := Lib.hid hLe
            have hlrH := Lib.hid hlr
            clear hlr hB hB1 hE hRow hb hn hLe hLn
            go_wp2_with ((with_reducible refine wpl_guard ?_); first | (at_builtin; refine wpl_append_line rfl _ _ 49 rfl w.heap.size 55 uLinT iEnt (.slice oL mL kL) q (R r) rfl hLnH.out ⟨w4.heap.size, 0, none⟩ rfl (.slice o9 l9 c9) ⟨_, _, _, rfl⟩ hcc.out (by omega) hbs.out ?_))
            intro b2 c2 wA R2 hL2 hg2 hR1 hR2 hbl
            clear c5
            have hg3 := hg2
            rw [← hLeH.out] at hg3
            have hmid := hBH.out.mid hrn hg3
            have c7 : wA.cell? ⟨w.heap.size, r, none⟩ = some (.slice oL mL kL) := by rw [hmid.cell, arr_get_lt L hrn, hLeH.out]
            have f7 := hmid.free r
            have hB2 := Lib.hid (hBH.out.push hrn (hlrH.out.symm ▸ hL2) hg3 (fun j hj => hR1 j (by have := hlrH.out; omega)) (hlrH.out.symm ▸ hR2) (by rw [hLeH.out, size_alloc]; exact hbl) hE1.out)
            have hRow2 := Lib.hid ((hRow1.out.growL hLnH.out hg2).upd hmid (fun i _ => hBH.out.sl i) (fun k hk => heap_setCell_other wA ⟨w.heap.size, r, none⟩ k (.slice (some ⟨b2, 0, none⟩) (q + 1) c2) hk))
            have hb2 := Lib.hid ((grown_low hb1.out hLnH.out (Nat.le_refl _) hbs.out hg2).setCell (show w.heap.size ≤ (Addr.mk w.heap.size r none).block by exact Nat.le_refl _) (.slice (some ⟨b2, 0, none⟩) (q + 1) c2))
            rw [hlrH.out, updR_same _ _ _ rfl] at hB2
            clear hL2 hg2 hR1 hR2 hbl hg3 hmid hBH hE1 hRow1 hb1 hLnH hcc
            go_wp2_with fail
            go_roundw
            case rel =>
              refine ⟨q + 1, _, _, _, by omega, by go_num, hB2.out, Lib.hid fun i hi => ?_, Lib.hid fun i hi => ?_, updF_at _ _ _, hRow2, hb2.out⟩
              · rw [updF_ne _ _ (by omega)]; exact hl1.out i hi
              · rw [updF_ne _ _ (by omega)]; exact hl2.out i hi
            case measure => simp [intOf] <;> omega
          · have hrqb : ((r : Int) == (q : Int)) = false := by rw [beq_eq_false_iff_ne]; omega
            have hE := Lib.hid (by rw [hent.out, if_neg hrq]; exact hr2 : IsRow w2 (.slice o9 l9 c9) (entM p Ms r q))
            clear hr2 hent hrq
            obtain ⟨oL, mL, kL, hLe⟩ := hB.sl r
            have c5 := hB.cell hrn
            rw [hLe] at c5
            have hn := below_new w2 (.cells #[.slice o9 l9 c9] 55)
            have hB1 := hB.below hn
            have hLn := hB1.line r hrn
            rw [hLe, hlr] at hLn
            have hLnH := Lib.hid hLn
            have hcc := Lib.hid ((Blk.new w2 #[.slice o9 l9 c9] 55).cell 0)
            have hbs := Lib.hid (Nat.le_trans hb.size hn.size)
            have hBH := Lib.hid hB1
            have hE1 := Lib.hid (hE.out.below hn)
            have hRow1 := Lib.hid (hRow.out.below hn)
            have hb1 := Lib.hid (below_step hb hn)
            have hLeH := Lib.hid hLe
            have hlrH := Lib.hid hlr
            clear hlr hB hB1 hE hRow hb hn hLe hLn
            go_wp2_with ((with_reducible refine wpl_guard ?_); first | (at_builtin; refine wpl_append_line rfl _ _ 49 rfl w.heap.size 55 uLinT iEnt (.slice oL mL kL) q (R r) rfl hLnH.out ⟨w2.heap.size, 0, none⟩ rfl (.slice o9 l9 c9) ⟨_, _, _, rfl⟩ hcc.out (by omega) hbs.out ?_))
            intro b2 c2 wA R2 hL2 hg2 hR1 hR2 hbl
            clear c5
            have hg3 := hg2
            rw [← hLeH.out] at hg3
            have hmid := hBH.out.mid hrn hg3
            have c7 : wA.cell? ⟨w.heap.size, r, none⟩ = some (.slice oL mL kL) := by rw [hmid.cell, arr_get_lt L hrn, hLeH.out]
            have f7 := hmid.free r
            have hB2 := Lib.hid (hBH.out.push hrn (hlrH.out.symm ▸ hL2) hg3 (fun j hj => hR1 j (by have := hlrH.out; omega)) (hlrH.out.symm ▸ hR2) (by rw [hLeH.out, size_alloc]; exact hbl) hE1.out)
            have hRow2 := Lib.hid ((hRow1.out.growL hLnH.out hg2).upd hmid (fun i _ => hBH.out.sl i) (fun k hk => heap_setCell_other wA ⟨w.heap.size, r, none⟩ k (.slice (some ⟨b2, 0, none⟩) (q + 1) c2) hk))
            have hb2 := Lib.hid ((grown_low hb1.out hLnH.out (Nat.le_refl _) hbs.out hg2).setCell (show w.heap.size ≤ (Addr.mk w.heap.size r none).block by exact Nat.le_refl _) (.slice (some ⟨b2, 0, none⟩) (q + 1) c2))
            rw [hlrH.out, updR_same _ _ _ rfl] at hB2
            clear hL2 hg2 hR1 hR2 hbl hg3 hmid hBH hE1 hRow1 hb1 hLnH hcc
            go_wp2_with fail
            go_roundw
            case rel =>
              refine ⟨q + 1, _, _, _, by omega, by go_num, hB2.out, Lib.hid fun i hi => ?_, Lib.hid fun i hi => ?_, updF_at _ _ _, hRow2, hb2.out⟩
              · rw [updF_ne _ _ (by omega)]; exact hl1.out i hi
              · rw [updF_ne _ _ (by omega)]; exact hl2.out i hi
            case measure => simp [intOf] <;> omega
        · have eqn : q = n := by omega
          subst eqn
          have hl3 := Lib.hid (fun i (h : i < r + 1) => (by
            by_cases e : i = r
            · subst e; exact hlr
            · exact hl1.out i (by omega) : ln i = q))
          have hl4 := Lib.hid (fun i (h : r + 1 ≤ i) => hl2.out i (by omega))
          clear hl1 hl2 hlr
          go_wp2_with fail
          go_roundw
          case rel => exact ⟨r + 1, L, ln, R, by omega, by go_num, hB, hl3.out, hl4.out, hb⟩
          case measure => simp [intOf] <;> omega
    · have ern : r = n := by omega
      subst ern
      have hMat := hB.mat hl1 hn0
      have hUB := hb.size
      have hAne := Lib.hid (entM_ne hpH.out Ms r)
      have hSm0 := Lib.hid (Sm.start hpH.out Ms r)
      clear hB hl1 hl2
      obtain ⟨A, hA⟩ : ∃ A, cfm (entM p Ms) = A := ⟨_, rfl⟩
      rw [hA] at hAne hSm0
      have hAH := Lib.hid hA
      clear hA hMsH hRcH hRrH
      rename World => w0
      go_wp2_with fail
      go_loopw [10, 58] (fun vo vk wr => ∃ (kk : Nat) (M : MxL) (Ro : Nat → Value), vk = .int .i64 (kk : Int) ∧ kk ≤ r ∧ Hid (Sm p r A kk M) ∧ IsMat wr w.heap.size w0.heap.size w.heap.size r M ∧ OutS w.heap.size w0.heap.size w wr vo kk Ro (fun i => monic p (M i i))) (fun _ vk _ => r - (intOf vk).toNat)
      case atStart => exact ⟨0, entM p Ms, fun _ => .slice none 0 0, rfl, by omega, hSm0, hMat, .inl ⟨rfl, rfl⟩, fun i h => absurd h (by omega), hb, Nat.le_refl _⟩
      case round =>
        clear hMat hb hSm0
        obtain ⟨kk, M0, Ro, rfl, hkn', hSm, hMat, hO⟩ := hrel
        rename World => wk
        generalize u10 = vo at *
        by_cases hkn : kk < r
        · have hkI : (kk : Int) < (r : Int) := by omega
          have hInv0 := Lib.hid (⟨_, M0, hSm.out, hSm.out.far hkn hAne.out, hMat, hO, fun i _ => rfl⟩ : ∃ m, InvM p r A kk w.heap.size w0.heap.size w.heap.size w _ Ro (fun i => M0 i i) wk m)
          clear hSm hMat hO
          go_wp2_with fail
          go_loopw [12] (fun _ wr => Hid (∃ m, InvM p r A kk w.heap.size w0.heap.size w.heap.size w vo Ro (fun i => M0 i i) wr m)) (fun _ wr => leastN (InvM p r A kk w.heap.size w0.heap.size w.heap.size w vo Ro (fun i => M0 i i) wr))
          case atStart => exact hInv0
          case round =>
            clear hInv0
            have hInv := hrel
            clear hrel
            rename World => wq
            obtain ⟨mq, hmq⟩ : ∃ m, leastN (InvM p r A kk w.heap.size w0.heap.size w.heap.size w vo Ro (fun i => M0 i i) wq) = m := ⟨_, rfl⟩
            have hsp := (leastN_spec hInv.out).1
            rw [hmq] at hsp
            have hmqH := Lib.hid hmq
            obtain ⟨M, hSm', hFar', hMat, hO, hD'⟩ := hsp
            have hSm := Lib.hid hSm'
            have hFar := Lib.hid hFar'
            have hD := Lib.hid hD'
            clear hInv hmq hSm' hFar' hD'
            go_wp2_with fail
            refine (smallest_any _ _ _ r kk M _ hMat hn hkn (hSm.out.alive hkn hAne.out)).mono ?_
            rintro e w1 ⟨x, y, rfl, hsm, hn1⟩
            have hsmH := Lib.hid hsm
            replace hMat := hMat.below hn1
            replace hO := hO.below hUB hn1
            clear hsm hn1
            go_wp2_with fail
            refine (swap_any _ _ _ r kk x y M _ hMat hn hkn hsmH.out.hx.2 hsmH.out.hy.2).mono ?_
            rintro e w2 ⟨rfl, hMat2, hk2⟩
            replace hO := hO.kept hk2
            clear hMat hk2
            have hSs := Lib.hid (hSm.out.swap hsmH.out.hx hsmH.out.hy)
            have hnes := Lib.hid (show swpM kk x y M kk kk ≠ [] by rw [swpM_corner]; exact hsmH.out.ne)
            obtain ⟨cl, hcl⟩ := dec_bool (Clean p r kk (swpM kk x y M))
            have hclH := Lib.hid hcl
            have hcal := Lib.hid (clear_any _ _ _ r kk p (swpM kk x y M) _ hpH.out hMat2 hn hkn (fun i j hi hj => ⟨hSs.out.po i j hi.2 hj.2, by have := hSs.out.len hi hj; omega⟩) (fun i j hi hj => by have := (hSs.out.row hpH.out hkn hnes.out).len hi hj; omega) hnes.out cl hcl)
            clear hcl hMat2
            go_wp2_with fail
            refine hcal.out.mono ?_
            rintro e w3 ⟨rfl, hMat3, hk3⟩
            replace hO := hO.kept hk3
            clear hcal hk3
            have hS3 := Lib.hid (hSs.out.clear hpH.out hkn hnes.out)
            have hD3 := Lib.hid (fun i (hi : i < kk) => (by rw [clrM_diag hi, swpM_diag hsmH.out.hx.1 hsmH.out.hy.1 hi]; exact hD.out i hi : clrM p r kk (swpM kk x y M) i i = M0 i i))
            have hne3 := Lib.hid (show clrM p r kk (swpM kk x y M) kk kk ≠ [] by rw [clr_corner]; exact hnes.out)
            cases cl
            · have hnx := Lib.hid (Far.rests hpH.out hSm.out hkn hFar.out hsmH.out (fun h => by have := hclH.out.1 h; cases this))
              clear hSm hFar hD hSs hnes hclH hne3
              go_wp2_with fail
              go_roundw
              case rel =>
                obtain ⟨m', hlt, hf⟩ := hnx.out
                exact Lib.hid ⟨m', _, hS3.out, hf, hMat3, hO, hD3.out⟩
              case measure =>
                obtain ⟨m', hlt, hf⟩ := hnx.out
                have h9 := (leastN_spec (P := InvM p r A kk w.heap.size w0.heap.size w.heap.size w vo Ro (fun i => M0 i i) _) ⟨m', _, hS3.out, hf, hMat3, hO, hD3.out⟩).2 m' ⟨_, hS3.out, hf, hMat3, hO, hD3.out⟩
                have h10 := hmqH.out
                omega
            · have hclean := Lib.hid (hclH.out.2 rfl)
              clear hclH
              have hspo := Lib.hid (spoiler_any _ _ _ r kk p (clrM p r kk (swpM kk x y M)) _ hpH.out hMat3 hn hkn (fun i j hi hj => ⟨hS3.out.po i j hi.2 hj.2, by have := hS3.out.len hi hj; omega⟩) hne3.out)
              go_wp2_with fail
              refine hspo.out.mono ?_
              clear hspo
              rintro e w4 ⟨hs, hn4⟩
              replace hMat3 := hMat3.below hn4
              replace hO := hO.below hUB hn4
              clear hn4
              rcases hs with ⟨rfl, hall⟩ | ⟨bad, jb, rfl, hb1, hb2, hj1, hj2, hr⟩
              · have hSt := Lib.hid (hSm.out.stage hpH.out hkn hsmH.out hclean.out hall)
                clear hall hSm hFar hD hSs hnes hclean hsmH hmqH
                obtain ⟨M3, hM3⟩ : ∃ M3, clrM p r kk (swpM kk x y M) = M3 := ⟨_, rfl⟩
                rw [hM3] at hMat3 hS3 hD3 hne3 hSt
                clear hM3
                obtain ⟨b, c, R, hM⟩ := hMat3
                have hkk : Part kk r kk := ⟨Nat.le_refl kk, hkn⟩
                have hPk := hS3.out.po kk kk hkn hkn
                have hlk := hS3.out.len hkk hkk
                obtain ⟨lc, hlc⟩ : ∃ l, cf (M3 kk kk) ((M3 kk kk).length - 1) = l := ⟨_, rfl⟩
                obtain ⟨iv, hiv⟩ : ∃ l, invp p lc = l := ⟨_, rfl⟩
                have hl0 := hPk.lead hne3.out
                have hl1 := (hPk.md ((M3 kk kk).length - 1)).2
                have hi9 := invp_spec hpH.out hl0 hl1
                rw [hlc] at hl0 hl1 hi9
                rw [hiv] at hi9
                have hlead := Lib.hid (fun (w2 : World) (hm : MatB w2 w.heap.size w0.heap.size w.heap.size r b c R M3) => (by
                  refine (lead_any _ _ w2 (hm.row kk kk hkn hkn)).mono fun _ _ h => ⟨_, h.1, by rw [hlc], h.2 ▸ Below.refl _ _⟩ : Calls Try.prog 68 #[R kk kk] w2 fun e w' => ∃ v, e = .returned v ∧ v = .int .i64 lc ∧ Below w2.heap.size w2 w'))
                have hinv := Lib.hid (fun (w2 : World) => (by
                  refine (inverse_any p lc w2 hpH.out (by omega) hl1).mono fun _ _ h => ⟨_, h.1, by rw [hiv], h.2 ▸ Below.refl _ _⟩ : Calls Try.prog 67 #[.int .i64 p, .int .i64 lc] w2 fun e w' => ∃ v, e = .returned v ∧ v = .int .i64 iv ∧ Below w2.heap.size w2 w'))
                have hscl := Lib.hid (fun (w2 : World) (hm : MatB w2 w.heap.size w0.heap.size w.heap.size r b c R M3) => (by
                  have := scale_any (R kk kk) (M3 kk kk) p iv w2 hpH.out (hm.row kk kk hkn hkn) hPk.md (by omega) (by omega) (by omega)
                  rw [← hiv, ← hlc] at this
                  rw [← hiv, ← hlc]
                  exact this : Calls Try.prog 59 #[.int .i64 p, R kk kk, .int .i64 iv] w2 fun e w' => ∃ v, e = .returned v ∧ IsRow w' v (monic p (M3 kk kk)) ∧ Below w2.heap.size w2 w'))
                clear hlc hiv hl0 hl1 hi9 hPk hlk
                go_wp2_with fail
                go_upto_region 27 with (fail)
                refine gen_last2K (w := _) (by kernel_rfl) (by kernel_rfl) (by kernel_rfl) 21 22 (by kernel_rfl)
                    (fun i => ([fun zv _ => zv = vo, fun zv _ => zv = .int .i64 p, fun zv _ => zv = .slice (some ⟨w.heap.size, 0, none⟩) r r, fun zv _ => zv = .int .i64 ((kk : Nat) : Int), fun zv _ => zv = .pointer (some ⟨w.heap.size, kk, none⟩), fun zv _ => zv = .slice (some ⟨b (kk), 0, none⟩) r (c (kk)), fun zv _ => zv = .int .i64 ((kk : Nat) : Int), fun zv _ => zv = .pointer (some ⟨b (kk), kk, none⟩), fun zv _ => zv = (R (kk) (kk)), fun zv _ => zv = .int .i64 p, fun zv _ => zv = .slice (some ⟨w.heap.size, 0, none⟩) r r, fun zv _ => zv = .int .i64 ((kk : Nat) : Int), fun zv _ => zv = .pointer (some ⟨w.heap.size, kk, none⟩), fun zv _ => zv = .slice (some ⟨b (kk), 0, none⟩) r (c (kk)), fun zv _ => zv = .int .i64 ((kk : Nat) : Int), fun zv _ => zv = .pointer (some ⟨b (kk), kk, none⟩), fun zv _ => zv = (R (kk) (kk)), fun zv _ => zv = .int .i64 lc, fun zv _ => zv = .int .i64 iv, fun v w => IsRow w v (monic p (M3 kk kk)), fun v w => ∃ g9 x9, v = .slice (some ⟨g9, 0, none⟩) 1 1 ∧ w.cell? ⟨g9, 0, none⟩ = some x9 ∧ IsRow w x9 (monic p (M3 kk kk)), fun _ _ => True, fun _ _ => True] : List (Value → World → Prop)).getD i (fun _ _ => True))
                    (fun w' => True) trivial (fun w1 w2 h hb => trivial) ?_ ?_ ?_
                · intro i v w1 w2 h hb
                  rcases i with _|_|_|_|_|_|_|_|_|_|_|_|_|_|_|_|_|_|_|_|_|_|_|i
                  · exact h
                  · exact h
                  · exact h
                  · exact h
                  · exact h
                  · exact h
                  · exact h
                  · exact h
                  · exact h
                  · exact h
                  · exact h
                  · exact h
                  · exact h
                  · exact h
                  · exact h
                  · exact h
                  · exact h
                  · exact h
                  · exact h
                  · exact (show IsRow w1 v (monic p (M3 kk kk)) from h).below hb
                  · obtain ⟨g9, x9, h1, h2, h3⟩ := h; exact ⟨g9, x9, h1, cell_below h2 hb, h3.below hb⟩
                  · exact h
                  · exact h
                  · exact h
                · intro i o ho hiZ hiZ2 a w2 hBl hSx hrd hpar
                  rcases i with _|_|_|_|_|_|_|_|_|_|_|_|_|_|_|_|_|_|_|_|_|_|_|i
                  · obtain rfl := Option.some.inj ho
                    refine .inl ⟨rfl, ?_⟩
                    have e10 : a.eval (.tmp 10) = vo := hpar 10 _ (by kernel_rfl) (by kernel_rfl)
                    exact wpv_of (wp_move _ _ rfl e10) (fun _ _ => rfl)
                  · obtain rfl := Option.some.inj ho
                    refine .inl ⟨rfl, ?_⟩
                    have e0 : a.eval (.tmp 0) = .int .i64 p := hpar 0 _ (by kernel_rfl) (by kernel_rfl)
                    exact wpv_of (wp_move _ _ rfl e0) (fun _ _ => rfl)
                  · obtain rfl := Option.some.inj ho
                    refine .inl ⟨rfl, ?_⟩
                    have e5 : a.eval (.tmp 5) = .slice (some ⟨w.heap.size, 0, none⟩) r r := hpar 5 _ (by kernel_rfl) (by kernel_rfl)
                    exact wpv_of (wp_move _ _ rfl e5) (fun _ _ => rfl)
                  · obtain rfl := Option.some.inj ho
                    refine .inl ⟨rfl, ?_⟩
                    have e11 : a.eval (.tmp 11) = .int .i64 ((kk : Nat) : Int) := hpar 11 _ (by kernel_rfl) (by kernel_rfl)
                    exact wpv_of (wp_move _ _ rfl e11) (fun _ _ => rfl)
                  · obtain rfl := Option.some.inj ho
                    refine .inl ⟨rfl, ?_⟩
                    have e114 : a.eval (.tmp 114) = .slice (some ⟨w.heap.size, 0, none⟩) r r := hrd 2 _ 114 rfl rfl (by kernel_rfl) (by kernel_rfl)
                    have e115 : a.eval (.tmp 115) = .int .i64 ((kk : Nat) : Int) := hrd 3 _ 115 rfl rfl (by kernel_rfl) (by kernel_rfl)
                    exact wpv_of (wp_index_row1 77 49 _ _ rfl uMatT sLinT (w.heap.size) r r (kk) .i64 e114 e115 hkn) (fun _ _ => rfl)
                  · obtain rfl := Option.some.inj ho
                    refine .inl ⟨rfl, ?_⟩
                    have e116 : a.eval (.tmp 116) = .pointer (some ⟨w.heap.size, kk, none⟩) := hrd 4 _ 116 rfl rfl (by kernel_rfl) (by kernel_rfl)
                    exact wpv_of (wp_load_slice 49 55 _ rfl _ e116 uLinT _ ((hM.below hBl).cell1 hkn)) (fun _ _ => rfl)
                  · obtain rfl := Option.some.inj ho
                    refine .inl ⟨rfl, ?_⟩
                    have e11 : a.eval (.tmp 11) = .int .i64 ((kk : Nat) : Int) := hpar 11 _ (by kernel_rfl) (by kernel_rfl)
                    exact wpv_of (wp_move _ _ rfl e11) (fun _ _ => rfl)
                  · obtain rfl := Option.some.inj ho
                    refine .inl ⟨rfl, ?_⟩
                    have e117 : a.eval (.tmp 117) = .slice (some ⟨b (kk), 0, none⟩) r (c (kk)) := hrd 5 _ 117 rfl rfl (by kernel_rfl) (by kernel_rfl)
                    have e118 : a.eval (.tmp 118) = .int .i64 ((kk : Nat) : Int) := hrd 6 _ 118 rfl rfl (by kernel_rfl) (by kernel_rfl)
                    exact wpv_of (wp_index_row1 49 55 _ _ rfl uLinT sEntT (b (kk)) r (c (kk)) (kk) .i64 e117 e118 hkn) (fun _ _ => rfl)
                  · obtain rfl := Option.some.inj ho
                    refine .inl ⟨rfl, ?_⟩
                    have e119 : a.eval (.tmp 119) = .pointer (some ⟨b (kk), kk, none⟩) := hrd 7 _ 119 rfl rfl (by kernel_rfl) (by kernel_rfl)
                    exact wpv_of (wp_load_slice 55 2 _ rfl _ e119 uEntT _ ((hM.below hBl).cell2 hkn hkn)) (fun _ _ => rfl)
                  · obtain rfl := Option.some.inj ho
                    refine .inl ⟨rfl, ?_⟩
                    have e0 : a.eval (.tmp 0) = .int .i64 p := hpar 0 _ (by kernel_rfl) (by kernel_rfl)
                    exact wpv_of (wp_move _ _ rfl e0) (fun _ _ => rfl)
                  · obtain rfl := Option.some.inj ho
                    refine .inl ⟨rfl, ?_⟩
                    have e5 : a.eval (.tmp 5) = .slice (some ⟨w.heap.size, 0, none⟩) r r := hpar 5 _ (by kernel_rfl) (by kernel_rfl)
                    exact wpv_of (wp_move _ _ rfl e5) (fun _ _ => rfl)
                  · obtain rfl := Option.some.inj ho
                    refine .inl ⟨rfl, ?_⟩
                    have e11 : a.eval (.tmp 11) = .int .i64 ((kk : Nat) : Int) := hpar 11 _ (by kernel_rfl) (by kernel_rfl)
                    exact wpv_of (wp_move _ _ rfl e11) (fun _ _ => rfl)
                  · obtain rfl := Option.some.inj ho
                    refine .inl ⟨rfl, ?_⟩
                    have e122 : a.eval (.tmp 122) = .slice (some ⟨w.heap.size, 0, none⟩) r r := hrd 10 _ 122 rfl rfl (by kernel_rfl) (by kernel_rfl)
                    have e123 : a.eval (.tmp 123) = .int .i64 ((kk : Nat) : Int) := hrd 11 _ 123 rfl rfl (by kernel_rfl) (by kernel_rfl)
                    exact wpv_of (wp_index_row1 77 49 _ _ rfl uMatT sLinT (w.heap.size) r r (kk) .i64 e122 e123 hkn) (fun _ _ => rfl)
                  · obtain rfl := Option.some.inj ho
                    refine .inl ⟨rfl, ?_⟩
                    have e124 : a.eval (.tmp 124) = .pointer (some ⟨w.heap.size, kk, none⟩) := hrd 12 _ 124 rfl rfl (by kernel_rfl) (by kernel_rfl)
                    exact wpv_of (wp_load_slice 49 55 _ rfl _ e124 uLinT _ ((hM.below hBl).cell1 hkn)) (fun _ _ => rfl)
                  · obtain rfl := Option.some.inj ho
                    refine .inl ⟨rfl, ?_⟩
                    have e11 : a.eval (.tmp 11) = .int .i64 ((kk : Nat) : Int) := hpar 11 _ (by kernel_rfl) (by kernel_rfl)
                    exact wpv_of (wp_move _ _ rfl e11) (fun _ _ => rfl)
                  · obtain rfl := Option.some.inj ho
                    refine .inl ⟨rfl, ?_⟩
                    have e125 : a.eval (.tmp 125) = .slice (some ⟨b (kk), 0, none⟩) r (c (kk)) := hrd 13 _ 125 rfl rfl (by kernel_rfl) (by kernel_rfl)
                    have e126 : a.eval (.tmp 126) = .int .i64 ((kk : Nat) : Int) := hrd 14 _ 126 rfl rfl (by kernel_rfl) (by kernel_rfl)
                    exact wpv_of (wp_index_row1 49 55 _ _ rfl uLinT sEntT (b (kk)) r (c (kk)) (kk) .i64 e125 e126 hkn) (fun _ _ => rfl)
                  · obtain rfl := Option.some.inj ho
                    refine .inl ⟨rfl, ?_⟩
                    have e127 : a.eval (.tmp 127) = .pointer (some ⟨b (kk), kk, none⟩) := hrd 15 _ 127 rfl rfl (by kernel_rfl) (by kernel_rfl)
                    exact wpv_of (wp_load_slice 55 2 _ rfl _ e127 uEntT _ ((hM.below hBl).cell2 hkn hkn)) (fun _ _ => rfl)
                  · obtain rfl := Option.some.inj ho
                    refine .inl ⟨rfl, ?_⟩
                    have e128 : a.eval (.tmp 128) = (R (kk) (kk)) := hrd 16 _ 128 rfl rfl (by kernel_rfl) (by kernel_rfl)
                    exact wpv_call 68 [.tmp 128] _ rfl [(R (kk) (kk))] (by simp only [List.map_cons, List.map_nil, e128]) Try.call68 (hlead.out w2 (hM.below hBl))
                  · obtain rfl := Option.some.inj ho
                    refine .inl ⟨rfl, ?_⟩
                    have e121 : a.eval (.tmp 121) = .int .i64 p := hrd 9 _ 121 rfl rfl (by kernel_rfl) (by kernel_rfl)
                    have e129 : a.eval (.tmp 129) = .int .i64 lc := hrd 17 _ 129 rfl rfl (by kernel_rfl) (by kernel_rfl)
                    exact wpv_call 67 [.tmp 121, .tmp 129] _ rfl [.int .i64 p, .int .i64 lc] (by simp only [List.map_cons, List.map_nil, e121, e129]) Try.call67 (hinv.out w2)
                  · obtain rfl := Option.some.inj ho
                    refine .inl ⟨rfl, ?_⟩
                    have e113 : a.eval (.tmp 113) = .int .i64 p := hrd 1 _ 113 rfl rfl (by kernel_rfl) (by kernel_rfl)
                    have e120 : a.eval (.tmp 120) = (R (kk) (kk)) := hrd 8 _ 120 rfl rfl (by kernel_rfl) (by kernel_rfl)
                    have e130 : a.eval (.tmp 130) = .int .i64 iv := hrd 18 _ 130 rfl rfl (by kernel_rfl) (by kernel_rfl)
                    exact wpv_call 59 [.tmp 113, .tmp 120, .tmp 130] _ rfl [.int .i64 p, (R (kk) (kk)), .int .i64 iv] (by simp only [List.map_cons, List.map_nil, e113, e120, e130]) Try.call59 (hscl.out w2 (hM.below hBl))
                  · obtain rfl := Option.some.inj ho
                    refine .inl ⟨rfl, ?_⟩
                    have h131 : (fun v w => IsRow w v (monic p (M3 kk kk))) (a.eval (.tmp 131)) w2 := hrd 19 _ 131 rfl rfl (by kernel_rfl) (by kernel_rfl)
                    generalize e131 : a.eval (.tmp 131) = v131 at h131
                    obtain ⟨o9, c9, hRe⟩ := (show IsRow w2 v131 (monic p (M3 kk kk)) from h131).form
                    exact Oper.wp_mono (fun a' w' ⟨u, e1, ⟨g9, e2, e3⟩, e4⟩ => ⟨u, e1, ⟨g9, _, e2, e3, by rw [← hRe]; exact (show IsRow w2 v131 (monic p (M3 kk kk)) from h131).below e4⟩, e4⟩) (wpv_row_slice 49 55 _ rfl uLinT sEntT zEnt o9 _ c9 (e131.trans hRe))
                  · obtain rfl := Option.some.inj ho
                    exact absurd rfl hiZ
                  · obtain rfl := Option.some.inj ho
                    exact absurd rfl hiZ2
                  · simp at ho
                intro oZ oZ2 hoZ hoZ2 vals xT hBx hSx hc0
                obtain rfl := Option.some.inj hoZ
                obtain rfl := Option.some.inj hoZ2
                clear hoZ hoZ2
                have e0 : vals 0 = vo := hc0 0 (by simp) (by decide) (by decide)
                have e1 : vals 1 = .int .i64 p := hc0 1 (by simp) (by decide) (by decide)
                have e2 : vals 2 = .slice (some ⟨w.heap.size, 0, none⟩) r r := hc0 2 (by simp) (by decide) (by decide)
                have e3 : vals 3 = .int .i64 ((kk : Nat) : Int) := hc0 3 (by simp) (by decide) (by decide)
                have e4 : vals 4 = .pointer (some ⟨w.heap.size, kk, none⟩) := hc0 4 (by simp) (by decide) (by decide)
                have e5 : vals 5 = .slice (some ⟨b (kk), 0, none⟩) r (c (kk)) := hc0 5 (by simp) (by decide) (by decide)
                have e6 : vals 6 = .int .i64 ((kk : Nat) : Int) := hc0 6 (by simp) (by decide) (by decide)
                have e7 : vals 7 = .pointer (some ⟨b (kk), kk, none⟩) := hc0 7 (by simp) (by decide) (by decide)
                have e8 : vals 8 = (R (kk) (kk)) := hc0 8 (by simp) (by decide) (by decide)
                have e9 : vals 9 = .int .i64 p := hc0 9 (by simp) (by decide) (by decide)
                have e10 : vals 10 = .slice (some ⟨w.heap.size, 0, none⟩) r r := hc0 10 (by simp) (by decide) (by decide)
                have e11 : vals 11 = .int .i64 ((kk : Nat) : Int) := hc0 11 (by simp) (by decide) (by decide)
                have e12 : vals 12 = .pointer (some ⟨w.heap.size, kk, none⟩) := hc0 12 (by simp) (by decide) (by decide)
                have e13 : vals 13 = .slice (some ⟨b (kk), 0, none⟩) r (c (kk)) := hc0 13 (by simp) (by decide) (by decide)
                have e14 : vals 14 = .int .i64 ((kk : Nat) : Int) := hc0 14 (by simp) (by decide) (by decide)
                have e15 : vals 15 = .pointer (some ⟨b (kk), kk, none⟩) := hc0 15 (by simp) (by decide) (by decide)
                have e16 : vals 16 = (R (kk) (kk)) := hc0 16 (by simp) (by decide) (by decide)
                have e17 : vals 17 = .int .i64 lc := hc0 17 (by simp) (by decide) (by decide)
                have e18 : vals 18 = .int .i64 iv := hc0 18 (by simp) (by decide) (by decide)
                have cT19 : (fun v w => IsRow w v (monic p (M3 kk kk))) (vals 19) xT := hc0 19 (by simp) (by decide) (by decide)
                generalize ev19 : vals 19 = uT19 at cT19
                have cT20 : (fun v w => ∃ g9 x9, v = .slice (some ⟨g9, 0, none⟩) 1 1 ∧ w.cell? ⟨g9, 0, none⟩ = some x9 ∧ IsRow w x9 (monic p (M3 kk kk))) (vals 20) xT := hc0 20 (by simp) (by decide) (by decide)
                generalize ev20 : vals 20 = uT20 at cT20
                refine ⟨rfl, rfl, ?_⟩
                simp only [List.length_cons, List.length_nil, Nat.zero_add, Nat.reduceAdd, List.replicate, seen2, Bool.false_eq_true, if_false, putAll, if_true, Act.put, List.setIfInBounds_toArray, List.set_cons_zero, List.set_cons_succ, e0, e1, e2, e3, e4, e5, e6, e7, e8, e9, e10, e11, e12, e13, e14, e15, e16, e17, e18, ev19, ev20]
                have hO5 := hO.below hUB hBx
                have hMt5 := hM.below hBx
                clear hO hBx hc0 hSx e0 e1 e2 e3 e4 e5 e6 e7 e8 e9 e10 e11 e12 e13 e14 e15 e16 e17 e18 ev19 ev20
                obtain ⟨g9, x9, hu9, hcx, hrx⟩ : ∃ g9 x9, uT20 = .slice (some ⟨g9, 0, none⟩) 1 1 ∧ xT.cell? ⟨g9, 0, none⟩ = some x9 ∧ IsRow xT x9 (monic p (M3 kk kk)) := cT20
                subst hu9
                clear cT19 hlead hinv hscl hM
                refine wp_append_line _ _ 49 rfl w0.heap.size 55 uLinT iEnt vo kk Ro rfl hO5.line ⟨g9, 0, none⟩ rfl x9 hrx.isSlice hcx (by omega) hO5.size ?_
                intro b2 c2 wA R2 hL2 hg2 hR1 hR2
                have hmt := Lib.hid (hMt5.grownL hO5.line (Nat.le_of_eq rfl) hg2)
                have hOo := Lib.hid (⟨hL2, fun i hi => by
                  by_cases e : i = kk
                  · subst e; rw [hR2]; exact hrx.growL hO5.line hg2
                  · rw [hR1 i (by omega), hD3.out i (by omega)]; exact (hO5.rows i (by omega)).growL hO5.line hg2, grown_low hO5.bel hO5.line hUB (Nat.le_trans hUB hO5.size) hg2, Nat.le_trans hO5.size hg2.size⟩ : OutS w.heap.size w0.heap.size w wA (.slice (some ⟨b2, 0, none⟩) (kk + 1) c2) (kk + 1) R2 (fun i => monic p (M3 i i)))
                clear hL2 hg2 hR1 hR2 hrx hcx hO5 hMt5
                refine wp_assign_any _ rfl ?_
                go_wp2_with fail
                go_roundw
                case rel => exact ⟨kk + 1, M3, R2, by go_num, by omega, hSt, ⟨_, _, _, hmt.out⟩, hOo.out⟩
                case measure => simp [intOf] <;> omega
              · have hnx := Lib.hid (Far.spoiled hpH.out hSm.out hkn hFar.out hsmH.out hclean.out hb1 hb2 hj1 hj2 hr)
                have hS5 := Lib.hid (hS3.out.spoil hpH.out hb1 hb2)
                have hD5 := Lib.hid (fun i (hi : i < kk) => (by rw [spoil_diag hi]; exact hD3.out i hi : spoil p r kk bad (clrM p r kk (swpM kk x y M)) i i = M0 i i))
                have hpo3 := Lib.hid (fun i j (hi : Part kk r i) (hj : Part kk r j) => (⟨hS3.out.po i j hi.2 hj.2, hS3.out.len hi hj⟩ : Po p (clrM p r kk (swpM kk x y M) i j) ∧ (clrM p r kk (swpM kk x y M) i j).length ≤ r + 1))
                clear hSm hFar hD hSs hnes hclean hsmH hne3 hD3 hS3 hr hj1 hj2
                obtain ⟨M3, hM3⟩ : ∃ M3, clrM p r kk (swpM kk x y M) = M3 := ⟨_, rfl⟩
                rw [hM3] at hMat3 hS5 hD5 hpo3 hnx
                clear hM3
                have hb1I : (kk : Int) < (bad : Int) := by omega
                have hbneg : ¬ (bad : Int) < 0 := by omega
                obtain ⟨b, c, R0, hM0⟩ := hMat3
                go_wp2_with fail
                go_loopw [15] (fun vc wr => ∃ (cc : Nat) (R : Nat → Nat → Value), vc = .int .i64 (cc : Int) ∧ kk ≤ cc ∧ cc ≤ r ∧ MatB wr w.heap.size w0.heap.size w.heap.size r b c R (spoilPart p kk bad cc M3) ∧ Kept w.heap.size w0.heap.size w4 wr ∧ OutS w.heap.size w0.heap.size w wr vo kk Ro (fun i => monic p (M0 i i))) (fun vc _ => r - (intOf vc).toNat)
                case atStart => exact ⟨kk, R0, rfl, Nat.le_refl _, by omega, hM0.congr (fun i j _ _ => spoilPart_start.symm), Kept.refl _ _ _, hO⟩
                case round =>
                  clear hM0 hO
                  obtain ⟨cc, R, rfl, hc0, hcn', hM, hKp, hO⟩ := hrel
                  by_cases hcn : cc < r
                  · have hcI : (cc : Int) < (r : Int) := by omega
                    have hcom := Lib.hid (fun (w2 : World) (hm : MatB w2 w.heap.size w0.heap.size w.heap.size r b c R (spoilPart p kk bad cc M3)) => combine_any (R kk cc) (R bad cc) (M3 kk cc) (M3 bad cc) p 1 w2 hpH.out (by have := hm.row kk cc hkn hcn; rwa [spoilPart_at (Nat.le_refl cc)] at this) (by have := hm.row bad cc hb2 hcn; rwa [spoilPart_bad hb1] at this)
                      (hpo3.out kk cc ⟨Nat.le_refl kk, hkn⟩ ⟨hc0, hcn⟩).1.md (hpo3.out bad cc ⟨by omega, hb2⟩ ⟨hc0, hcn⟩).1.md (by decide) (by decide) (by have := (hpo3.out kk cc ⟨Nat.le_refl kk, hkn⟩ ⟨hc0, hcn⟩).2; omega) (by have := (hpo3.out bad cc ⟨by omega, hb2⟩ ⟨hc0, hcn⟩).2; omega))
                    go_wp2_with fail
                    go_upto_region 26 with (fail)
                    refine gen_last (w := _) (by kernel_rfl) (by kernel_rfl) (by kernel_rfl) 22 (by kernel_rfl)
                        (fun i => ([fun zv _ => zv = .slice (some ⟨w.heap.size, 0, none⟩) r r, fun zv _ => zv = .int .i64 ((kk : Nat) : Int), fun zv _ => zv = .pointer (some ⟨w.heap.size, kk, none⟩), fun zv _ => zv = .slice (some ⟨b (kk), 0, none⟩) r (c (kk)), fun zv _ => zv = .int .i64 ((cc : Nat) : Int), fun zv _ => zv = .int .i64 p, fun zv _ => zv = .slice (some ⟨w.heap.size, 0, none⟩) r r, fun zv _ => zv = .int .i64 ((kk : Nat) : Int), fun zv _ => zv = .pointer (some ⟨w.heap.size, kk, none⟩), fun zv _ => zv = .slice (some ⟨b (kk), 0, none⟩) r (c (kk)), fun zv _ => zv = .int .i64 ((cc : Nat) : Int), fun zv _ => zv = .pointer (some ⟨b (kk), cc, none⟩), fun zv _ => zv = (R (kk) (cc)), fun zv _ => zv = .slice (some ⟨w.heap.size, 0, none⟩) r r, fun zv _ => zv = .int .i64 ((bad : Nat) : Int), fun zv _ => zv = .pointer (some ⟨w.heap.size, bad, none⟩), fun zv _ => zv = .slice (some ⟨b (bad), 0, none⟩) r (c (bad)), fun zv _ => zv = .int .i64 ((cc : Nat) : Int), fun zv _ => zv = .pointer (some ⟨b (bad), cc, none⟩), fun zv _ => zv = (R (bad) (cc)), fun v w => IsRow w v (addp p (M3 kk cc) (M3 bad cc) 1), fun zv _ => zv = .pointer (some ⟨b (kk), cc, none⟩), fun _ _ => True] : List (Value → World → Prop)).getD i (fun _ _ => True))
                        (fun w' => True) trivial (fun w1 w2 h hb => trivial) ?_ ?_ ?_
                    · intro i v w1 w2 h hb
                      rcases i with _|_|_|_|_|_|_|_|_|_|_|_|_|_|_|_|_|_|_|_|_|_|_|i
                      · exact h
                      · exact h
                      · exact h
                      · exact h
                      · exact h
                      · exact h
                      · exact h
                      · exact h
                      · exact h
                      · exact h
                      · exact h
                      · exact h
                      · exact h
                      · exact h
                      · exact h
                      · exact h
                      · exact h
                      · exact h
                      · exact h
                      · exact h
                      · exact (show IsRow w1 v (addp p (M3 kk cc) (M3 bad cc) 1) from h).below hb
                      · exact h
                      · exact h
                      · exact h
                    · intro i o ho hiZ a w2 hBl hSx hrd hpar
                      rcases i with _|_|_|_|_|_|_|_|_|_|_|_|_|_|_|_|_|_|_|_|_|_|_|i
                      · obtain rfl := Option.some.inj ho
                        refine .inl ⟨rfl, ?_⟩
                        have e5 : a.eval (.tmp 5) = .slice (some ⟨w.heap.size, 0, none⟩) r r := hpar 5 _ (by kernel_rfl) (by kernel_rfl)
                        exact wpv_of (wp_move _ _ rfl e5) (fun _ _ => rfl)
                      · obtain rfl := Option.some.inj ho
                        refine .inl ⟨rfl, ?_⟩
                        have e11 : a.eval (.tmp 11) = .int .i64 ((kk : Nat) : Int) := hpar 11 _ (by kernel_rfl) (by kernel_rfl)
                        exact wpv_of (wp_move _ _ rfl e11) (fun _ _ => rfl)
                      · obtain rfl := Option.some.inj ho
                        refine .inl ⟨rfl, ?_⟩
                        have e90 : a.eval (.tmp 90) = .slice (some ⟨w.heap.size, 0, none⟩) r r := hrd 0 _ 90 rfl rfl (by kernel_rfl) (by kernel_rfl)
                        have e91 : a.eval (.tmp 91) = .int .i64 ((kk : Nat) : Int) := hrd 1 _ 91 rfl rfl (by kernel_rfl) (by kernel_rfl)
                        exact wpv_of (wp_index_row1 77 49 _ _ rfl uMatT sLinT (w.heap.size) r r (kk) .i64 e90 e91 hkn) (fun _ _ => rfl)
                      · obtain rfl := Option.some.inj ho
                        refine .inl ⟨rfl, ?_⟩
                        have e92 : a.eval (.tmp 92) = .pointer (some ⟨w.heap.size, kk, none⟩) := hrd 2 _ 92 rfl rfl (by kernel_rfl) (by kernel_rfl)
                        exact wpv_of (wp_load_slice 49 55 _ rfl _ e92 uLinT _ ((hM.below hBl).cell1 hkn)) (fun _ _ => rfl)
                      · obtain rfl := Option.some.inj ho
                        refine .inl ⟨rfl, ?_⟩
                        have e15 : a.eval (.tmp 15) = .int .i64 ((cc : Nat) : Int) := hpar 15 _ (by kernel_rfl) (by kernel_rfl)
                        exact wpv_of (wp_move _ _ rfl e15) (fun _ _ => rfl)
                      · obtain rfl := Option.some.inj ho
                        refine .inl ⟨rfl, ?_⟩
                        have e0 : a.eval (.tmp 0) = .int .i64 p := hpar 0 _ (by kernel_rfl) (by kernel_rfl)
                        exact wpv_of (wp_move _ _ rfl e0) (fun _ _ => rfl)
                      · obtain rfl := Option.some.inj ho
                        refine .inl ⟨rfl, ?_⟩
                        have e5 : a.eval (.tmp 5) = .slice (some ⟨w.heap.size, 0, none⟩) r r := hpar 5 _ (by kernel_rfl) (by kernel_rfl)
                        exact wpv_of (wp_move _ _ rfl e5) (fun _ _ => rfl)
                      · obtain rfl := Option.some.inj ho
                        refine .inl ⟨rfl, ?_⟩
                        have e11 : a.eval (.tmp 11) = .int .i64 ((kk : Nat) : Int) := hpar 11 _ (by kernel_rfl) (by kernel_rfl)
                        exact wpv_of (wp_move _ _ rfl e11) (fun _ _ => rfl)
                      · obtain rfl := Option.some.inj ho
                        refine .inl ⟨rfl, ?_⟩
                        have e96 : a.eval (.tmp 96) = .slice (some ⟨w.heap.size, 0, none⟩) r r := hrd 6 _ 96 rfl rfl (by kernel_rfl) (by kernel_rfl)
                        have e97 : a.eval (.tmp 97) = .int .i64 ((kk : Nat) : Int) := hrd 7 _ 97 rfl rfl (by kernel_rfl) (by kernel_rfl)
                        exact wpv_of (wp_index_row1 77 49 _ _ rfl uMatT sLinT (w.heap.size) r r (kk) .i64 e96 e97 hkn) (fun _ _ => rfl)
                      · obtain rfl := Option.some.inj ho
                        refine .inl ⟨rfl, ?_⟩
                        have e98 : a.eval (.tmp 98) = .pointer (some ⟨w.heap.size, kk, none⟩) := hrd 8 _ 98 rfl rfl (by kernel_rfl) (by kernel_rfl)
                        exact wpv_of (wp_load_slice 49 55 _ rfl _ e98 uLinT _ ((hM.below hBl).cell1 hkn)) (fun _ _ => rfl)
                      · obtain rfl := Option.some.inj ho
                        refine .inl ⟨rfl, ?_⟩
                        have e15 : a.eval (.tmp 15) = .int .i64 ((cc : Nat) : Int) := hpar 15 _ (by kernel_rfl) (by kernel_rfl)
                        exact wpv_of (wp_move _ _ rfl e15) (fun _ _ => rfl)
                      · obtain rfl := Option.some.inj ho
                        refine .inl ⟨rfl, ?_⟩
                        have e99 : a.eval (.tmp 99) = .slice (some ⟨b (kk), 0, none⟩) r (c (kk)) := hrd 9 _ 99 rfl rfl (by kernel_rfl) (by kernel_rfl)
                        have e100 : a.eval (.tmp 100) = .int .i64 ((cc : Nat) : Int) := hrd 10 _ 100 rfl rfl (by kernel_rfl) (by kernel_rfl)
                        exact wpv_of (wp_index_row1 49 55 _ _ rfl uLinT sEntT (b (kk)) r (c (kk)) (cc) .i64 e99 e100 hcn) (fun _ _ => rfl)
                      · obtain rfl := Option.some.inj ho
                        refine .inl ⟨rfl, ?_⟩
                        have e101 : a.eval (.tmp 101) = .pointer (some ⟨b (kk), cc, none⟩) := hrd 11 _ 101 rfl rfl (by kernel_rfl) (by kernel_rfl)
                        exact wpv_of (wp_load_slice 55 2 _ rfl _ e101 uEntT _ ((hM.below hBl).cell2 hkn hcn)) (fun _ _ => rfl)
                      · obtain rfl := Option.some.inj ho
                        refine .inl ⟨rfl, ?_⟩
                        have e5 : a.eval (.tmp 5) = .slice (some ⟨w.heap.size, 0, none⟩) r r := hpar 5 _ (by kernel_rfl) (by kernel_rfl)
                        exact wpv_of (wp_move _ _ rfl e5) (fun _ _ => rfl)
                      · obtain rfl := Option.some.inj ho
                        refine .inl ⟨rfl, ?_⟩
                        have e14 : a.eval (.tmp 14) = .int .i64 ((bad : Nat) : Int) := hpar 14 _ (by kernel_rfl) (by kernel_rfl)
                        exact wpv_of (wp_move _ _ rfl e14) (fun _ _ => rfl)
                      · obtain rfl := Option.some.inj ho
                        refine .inl ⟨rfl, ?_⟩
                        have e103 : a.eval (.tmp 103) = .slice (some ⟨w.heap.size, 0, none⟩) r r := hrd 13 _ 103 rfl rfl (by kernel_rfl) (by kernel_rfl)
                        have e104 : a.eval (.tmp 104) = .int .i64 ((bad : Nat) : Int) := hrd 14 _ 104 rfl rfl (by kernel_rfl) (by kernel_rfl)
                        exact wpv_of (wp_index_row1 77 49 _ _ rfl uMatT sLinT (w.heap.size) r r (bad) .i64 e103 e104 hb2) (fun _ _ => rfl)
                      · obtain rfl := Option.some.inj ho
                        refine .inl ⟨rfl, ?_⟩
                        have e105 : a.eval (.tmp 105) = .pointer (some ⟨w.heap.size, bad, none⟩) := hrd 15 _ 105 rfl rfl (by kernel_rfl) (by kernel_rfl)
                        exact wpv_of (wp_load_slice 49 55 _ rfl _ e105 uLinT _ ((hM.below hBl).cell1 hb2)) (fun _ _ => rfl)
                      · obtain rfl := Option.some.inj ho
                        refine .inl ⟨rfl, ?_⟩
                        have e15 : a.eval (.tmp 15) = .int .i64 ((cc : Nat) : Int) := hpar 15 _ (by kernel_rfl) (by kernel_rfl)
                        exact wpv_of (wp_move _ _ rfl e15) (fun _ _ => rfl)
                      · obtain rfl := Option.some.inj ho
                        refine .inl ⟨rfl, ?_⟩
                        have e106 : a.eval (.tmp 106) = .slice (some ⟨b (bad), 0, none⟩) r (c (bad)) := hrd 16 _ 106 rfl rfl (by kernel_rfl) (by kernel_rfl)
                        have e107 : a.eval (.tmp 107) = .int .i64 ((cc : Nat) : Int) := hrd 17 _ 107 rfl rfl (by kernel_rfl) (by kernel_rfl)
                        exact wpv_of (wp_index_row1 49 55 _ _ rfl uLinT sEntT (b (bad)) r (c (bad)) (cc) .i64 e106 e107 hcn) (fun _ _ => rfl)
                      · obtain rfl := Option.some.inj ho
                        refine .inl ⟨rfl, ?_⟩
                        have e108 : a.eval (.tmp 108) = .pointer (some ⟨b (bad), cc, none⟩) := hrd 18 _ 108 rfl rfl (by kernel_rfl) (by kernel_rfl)
                        exact wpv_of (wp_load_slice 55 2 _ rfl _ e108 uEntT _ ((hM.below hBl).cell2 hb2 hcn)) (fun _ _ => rfl)
                      · obtain rfl := Option.some.inj ho
                        refine .inl ⟨rfl, ?_⟩
                        have e95 : a.eval (.tmp 95) = .int .i64 p := hrd 5 _ 95 rfl rfl (by kernel_rfl) (by kernel_rfl)
                        have e102 : a.eval (.tmp 102) = (R (kk) (cc)) := hrd 12 _ 102 rfl rfl (by kernel_rfl) (by kernel_rfl)
                        have e109 : a.eval (.tmp 109) = (R (bad) (cc)) := hrd 19 _ 109 rfl rfl (by kernel_rfl) (by kernel_rfl)
                        exact wpv_call 61 [.tmp 95, .tmp 102, .tmp 109, .const (.int .i64 1)] _ rfl [.int .i64 p, (R (kk) (cc)), (R (bad) (cc)), .int .i64 1] (by simp only [List.map_cons, List.map_nil, e95, e102, e109, eval_const]) Try.call61 (hcom.out w2 (hM.below hBl))
                      · obtain rfl := Option.some.inj ho
                        refine .inl ⟨rfl, ?_⟩
                        have e93 : a.eval (.tmp 93) = .slice (some ⟨b (kk), 0, none⟩) r (c (kk)) := hrd 3 _ 93 rfl rfl (by kernel_rfl) (by kernel_rfl)
                        have e94 : a.eval (.tmp 94) = .int .i64 ((cc : Nat) : Int) := hrd 4 _ 94 rfl rfl (by kernel_rfl) (by kernel_rfl)
                        exact wpv_of (wp_index_row1 49 55 _ _ rfl uLinT sEntT (b (kk)) r (c (kk)) (cc) .i64 e93 e94 hcn) (fun _ _ => rfl)
                      · obtain rfl := Option.some.inj ho
                        exact absurd rfl hiZ
                      · simp at ho
                    intro oZ hoZ vals xS hBx hSx hc0
                    obtain rfl := Option.some.inj hoZ
                    clear hoZ
                    have e0 : vals 0 = .slice (some ⟨w.heap.size, 0, none⟩) r r := hc0 0 (by simp) (by decide)
                    have e1 : vals 1 = .int .i64 ((kk : Nat) : Int) := hc0 1 (by simp) (by decide)
                    have e2 : vals 2 = .pointer (some ⟨w.heap.size, kk, none⟩) := hc0 2 (by simp) (by decide)
                    have e3 : vals 3 = .slice (some ⟨b (kk), 0, none⟩) r (c (kk)) := hc0 3 (by simp) (by decide)
                    have e4 : vals 4 = .int .i64 ((cc : Nat) : Int) := hc0 4 (by simp) (by decide)
                    have e5 : vals 5 = .int .i64 p := hc0 5 (by simp) (by decide)
                    have e6 : vals 6 = .slice (some ⟨w.heap.size, 0, none⟩) r r := hc0 6 (by simp) (by decide)
                    have e7 : vals 7 = .int .i64 ((kk : Nat) : Int) := hc0 7 (by simp) (by decide)
                    have e8 : vals 8 = .pointer (some ⟨w.heap.size, kk, none⟩) := hc0 8 (by simp) (by decide)
                    have e9 : vals 9 = .slice (some ⟨b (kk), 0, none⟩) r (c (kk)) := hc0 9 (by simp) (by decide)
                    have e10 : vals 10 = .int .i64 ((cc : Nat) : Int) := hc0 10 (by simp) (by decide)
                    have e11 : vals 11 = .pointer (some ⟨b (kk), cc, none⟩) := hc0 11 (by simp) (by decide)
                    have e12 : vals 12 = (R (kk) (cc)) := hc0 12 (by simp) (by decide)
                    have e13 : vals 13 = .slice (some ⟨w.heap.size, 0, none⟩) r r := hc0 13 (by simp) (by decide)
                    have e14 : vals 14 = .int .i64 ((bad : Nat) : Int) := hc0 14 (by simp) (by decide)
                    have e15 : vals 15 = .pointer (some ⟨w.heap.size, bad, none⟩) := hc0 15 (by simp) (by decide)
                    have e16 : vals 16 = .slice (some ⟨b (bad), 0, none⟩) r (c (bad)) := hc0 16 (by simp) (by decide)
                    have e17 : vals 17 = .int .i64 ((cc : Nat) : Int) := hc0 17 (by simp) (by decide)
                    have e18 : vals 18 = .pointer (some ⟨b (bad), cc, none⟩) := hc0 18 (by simp) (by decide)
                    have e19 : vals 19 = (R (bad) (cc)) := hc0 19 (by simp) (by decide)
                    have cS20 : (fun v w => IsRow w v (addp p (M3 kk cc) (M3 bad cc) 1)) (vals 20) xS := hc0 20 (by simp) (by decide)
                    generalize ev20 : vals 20 = uS20 at cS20
                    have e21 : vals 21 = .pointer (some ⟨b (kk), cc, none⟩) := hc0 21 (by simp) (by decide)
                    refine ⟨rfl, ?_⟩
                    simp only [List.length_cons, List.length_nil, Nat.zero_add, Nat.reduceAdd, List.replicate, seenAll, Bool.false_eq_true, if_false, putAll, if_true, Act.put, List.setIfInBounds_toArray, List.set_cons_zero, List.set_cons_succ, e0, e1, e2, e3, e4, e5, e6, e7, e8, e9, e10, e11, e12, e13, e14, e15, e16, e17, e18, e19, ev20, e21]
                    have hk5 := hKp.below (Nat.le_trans hM.hg (Nat.le_of_lt hM.out.lt)) hBx
                    have hO5 := hO.below hUB hBx
                    replace hM := hM.below hBx
                    replace hKp := hk5
                    replace hO := hO5
                    clear hk5 hO5 hBx hc0 hSx e0 e1 e2 e3 e4 e5 e6 e7 e8 e9 e10 e11 e12 e13 e14 e15 e16 e17 e18 e19 ev20 e21
                    have hU := show IsRow xS uS20 (addp p (M3 kk cc) (M3 bad cc) 1) from cS20
                    clear cS20 hcom
                    refine wp_store_arrN 55 _ _ rfl (b kk) cc rfl uS20 rfl (c kk) (R kk) _ (hM.inn kk hkn) (by have := (hM.cap kk hkn).1; omega) sEntT (slice_one hU.isSlice) ?_
                    have hM5 := Lib.hid ((hM.store hkn hcn hU).congr (fun x y hx hy => congrFun (congrFun (spoilPart_next hc0 rfl) x) y))
                    have hKs := (Kept.refl w.heap.size w0.heap.size xS).setRow (hM.hb kk hkn) (hM.upb kk hkn) (hM.inn kk hkn) (fun q _ => hM.sl kk q) (arr (c kk) fun q => if q = cc then uS20 else R kk q)
                    have hK5 := Lib.hid (hKp.trans hKs)
                    have hO5 := Lib.hid (hO.kept hKs)
                    clear hM hU hKp hO hKs
                    go_wp2_with fail
                    go_roundw
                    case rel => exact ⟨cc + 1, _, by go_num, by omega, by omega, hM5.out, hK5.out, hO5.out⟩
                    case measure => simp [intOf] <;> omega
                  · have ecn : r = cc := by omega
                    have hMend := Lib.hid (⟨b, c, R, hM.congr (M' := spoil p r kk bad M3) (fun i j _ _ => by rw [ecn]; exact spoilPart_all)⟩ : IsMat _ w.heap.size w0.heap.size w.heap.size r (spoil p r kk bad M3))
                    clear hM hKp
                    go_wp2_with fail
                    go_roundw
                    case rel =>
                      obtain ⟨m', hlt, hf⟩ := hnx.out
                      exact Lib.hid ⟨m', _, hS5.out, hf, hMend.out, hO, hD5.out⟩
                    case measure =>
                      obtain ⟨m', hlt, hf⟩ := hnx.out
                      have h9 := (leastN_spec (P := InvM p r A kk w.heap.size w0.heap.size w.heap.size w vo Ro (fun i => M0 i i) _) ⟨m', _, hS5.out, hf, hMend.out, hO, hD5.out⟩).2 m' ⟨_, hS5.out, hf, hMend.out, hO, hD5.out⟩
                      have h10 := hmqH.out
                      omega
        · have ekn : kk = r := by omega
          subst ekn
          clear hMat
          go_wp2_with fail
          go_ret
          exact ⟨_, Ro, M0, rfl, hO.line.mono hUB, hO.rows, by rw [hAH.out]; exact hSm.out, hO.bel⟩
end Go.Proofs.Ytnkkkgaojhkniab
