/- Walks: the least relation of a sequence of vectors, on the program's side. -/
import Derived.Test.YtnkkkgaojhkniabI3
import Derived.Test.YtnkkkgaojhkniabRB
import Derived.Test.YtnkkkgaojhkniabInvA
set_option linter.unusedVariables false
set_option linter.unusedSimpArgs false
namespace Go.Proofs.Ytnkkkgaojhkniab
open Go.RowKit
/-- A stage of the program's search: the vectors in the order of their lengths. -/
structure KS (p : Int) (x : Nat → List Int) (N k : Nat) (K T : Nat → List Int) : Prop where
  st : Stage p x (fun a => a.length - 1) k K T
  ord : ∀ i j, i < j → j < k → (K j).length < (K i).length
  len : ∀ i, i < k → 0 < (K i).length ∧ (K i).length ≤ N
theorem KS.le {p : Int} {x : Nat → List Int} {N k : Nat} {K T : Nat → List Int} (h : KS p x N k K T) : k ≤ N := h.st.le fun i hi => by have := h.len i hi; show (K i).length - 1 < N; omega
theorem KS.zero (p : Int) (x : Nat → List Int) (N : Nat) (K T : Nat → List Int) : KS p x N 0 K T := ⟨Stage.zero _ _ _ _ _, fun _ _ _ h => absurd h (by omega), fun _ h => absurd h (by omega)⟩
theorem red_len {p : Int} {N k : Nat} {K T : Nat → List Int} (hK : ∀ i, i < k → (K i).length ≤ N) {v o : List Int} (hv : v.length ≤ N) (pl : List Int → Nat) : ∀ i, i ≤ k → (redN p pl K T v o i).1.length ≤ N
  | 0, _ => hv
  | i + 1, hi => Nat.le_trans (addp_length p _ _ _) (Nat.max_le.2 ⟨red_len hK hv pl i (by omega), hK i (by omega)⟩)
theorem KS.next {p : Int} (hp : Pr p) {x : Nat → List Int} {N k : Nat} {K T : Nat → List Int} (h : KS p x N k K T) {v o : List Int} (hr : Red p x (fun a => a.length - 1) k K k v o) (hn : v ≠ []) (hl : v.length ≤ N) (a : Nat) (ha : a ≤ k)
    (h1 : ∀ i, i < a → v.length ≤ (K i).length) (h2 : a < k → (K a).length < v.length) : KS p x N (k + 1) (insF a v K) (insF a o T) := by
  have hvp := List.length_pos_iff.2 hn
  have hlead := hr.pv.lead hn
  have hne : ∀ i, i < k → v.length ≠ (K i).length := fun i hi e => by
    have h3 := hr.zero i hi
    have h4 : cf v ((K i).length - 1) = 0 := h3
    rw [← e] at h4
    omega
  have hlt : ∀ i, a ≤ i → i < k → (K i).length < v.length := fun i h3 h4 => by
    by_cases e : i = a
    · subst e; exact h2 h4
    · exact Nat.lt_trans (h.ord a i (by omega) h4) (h2 (by omega))
  have hgt : ∀ i, i < a → v.length < (K i).length := fun i h3 => by have := h1 i h3; have := hne i (by omega); omega
  refine ⟨h.st.next hp hr hn v o 1 hr.pv hr.po (Nat.le_of_eq hr.len) (by show cf v (v.length - 1) ≠ 0; omega) (Eqp.of_eq (by funext n; exact (Int.one_mul _).symm)) hr.lin hr.zero a ha fun i h3 h4 => cf_ge _ _ (by have := hlt i h3 h4; show (K i).length ≤ v.length - 1; omega), fun i j hij hj => ?_, fun i hi => ?_⟩
  · rcases insF_cases v K ha (show i < k + 1 by omega) with ⟨e1, e2⟩ | ⟨q, hq, e1, e2⟩
    · rcases insF_cases v K ha hj with ⟨f1, f2⟩ | ⟨r, hr2, f1, f2⟩
      · omega
      · rw [e1, f1]; exact hlt r (by omega) hr2
    · rcases insF_cases v K ha hj with ⟨f1, f2⟩ | ⟨r, hr2, f1, f2⟩
      · rw [e1, f1]; exact hgt q (by omega)
      · rw [e1, f1]; exact h.ord q r (by omega) hr2
  · rcases insF_cases v K ha hi with ⟨e1, e2⟩ | ⟨q, hq, e1, e2⟩
    · rw [e1]; exact ⟨hvp, hl⟩
    · rw [e1]; exact h.len q hq
theorem RwsK.slc {w : World} {B n c : Nat} {oa : Option Addr} {R : Nat → Value} {M : Nat → List Int} (h : RwsK w B (.slice oa n c) n R M) (hn : 0 < n) : ∃ g, oa = some ⟨g, 0, none⟩ ∧ B ≤ g ∧ ∀ i, i < n → w.cell? ⟨g, i, none⟩ = some (R i) := by
  obtain ⟨oa', cap, e, _, _, h2⟩ := h.at
  injection e with e1 _ _
  rw [e1]; exact h2 hn
theorem grownK_past {w w1 w2 : World} {row row2 : Option Nat} (h : w.grownBy w1 row) (h2 : w1.grownBy w2 row2) (hr : ∀ g, row2 = some g → w.heap.size ≤ g) : w.grownBy w2 row :=
  ⟨h2.os.trans h.os, h2.tape.trans h.tape, h2.output.trans h.output, Nat.le_trans h.size h2.size, fun k hk hne => (h2.block k (Nat.lt_of_lt_of_le hk h.size) (fun e => by have := hr k e.symm; omega)).trans (h.block k hk hne)⟩
theorem setRowK_grown (w : World) (g : Nat) (cs : Array Value) : w.grownBy (w.setRow g cs) (some g) := ⟨rfl, rfl, rfl, by simp, fun k _ hk => setRow_other w g k cs (fun e => hk (by rw [e]))⟩
theorem SBlk.of_blk1 {w : World} {g : Nat} {a : Option Addr} {n c : Nat} {t : TypeId} (h : Blk w g (arr 1 fun _ => .slice a n c) t) : SBlk w g := fun i v hv => by
  rw [h.cell, arr_get] at hv
  split at hv
  · exact ⟨a, n, c, (Option.some.inj hv).symm⟩
  · cases hv
theorem onek_row {w : World} {g k : Nat} (h : Blk w g ((arr (k + 1) fun _ => Value.int .i64 0).setIfInBounds k (.int .i64 1)) 2) (hk : k ≤ 1000) : IsRow w (.slice (some ⟨g, 0, none⟩) (k + 1) (k + 1)) (onek k) := by
  refine ⟨some ⟨g, 0, none⟩, k + 1, by rw [onek_len], by rw [onek_len]; omega, by unfold maxLen; omega, fun _ => ⟨g, 0, rfl, fun i hi => ?_⟩⟩
  rw [onek_len] at hi
  rw [Nat.zero_add, h.cell, onek_cf, Array.getElem?_setIfInBounds]
  by_cases e : k = i
  · subst e; rw [if_pos rfl, if_pos (by rw [arr_size]; omega), if_pos rfl]
  · rw [if_neg e, arr_get, if_pos hi, if_neg (fun h => e h.symm)]
section
variable {P : Program} {Q : Exit → Act → World → Prop} {o : Oper} {a : Act} {w : World} {K : Act → World → Prop}
theorem wp_assignK (x : Operand) (v : Value) (ho : o.op = .assign x) (hx : a.eval x = v) (h : K (a.put o.dst v) w) : o.wp P a w K Q := by
  unfold Oper.wp execOp
  simp [ho, hx]
  exact h
end
set_option maxRecDepth 20000 in
set_option maxHeartbeats 4000000 in
theorem relation_any (fid : Nat) (caps : Array Value) (p : Int) (x : Nat → List Int) (N kk : Nat) (c : List Int) (St : Nat → World → Prop) (gB : Nat) (w : World)
    (hent : ∀ w, (callFunc fid caps).run Try.prog w = .ok (.enter fid caps) w) (hp : Pr p) (hx : ∀ j, Po p (x j)) (hN : ∀ j, (x j).length ≤ N) (hN64 : N ≤ 60)
    (hcall : ∀ k w, St k w → Calls Try.prog fid caps w fun e w' => ∃ v, e = .returned v ∧ IsRow w' v (x k) ∧ St (k + 1) w' ∧ w.grownBy w' (some gB))
    (hkeep : ∀ k w1 w' row, St k w1 → w1.grownBy w' row → (∀ g, row = some g → w.heap.size ≤ g ∧ SBlk w1 g) → St k w')
    (hbox : ∀ k w, St k w → SBlk w gB) (hgB : gB < w.heap.size) (h0 : St 0 w)
    (hc : Rel p (fun j => cf (x j)) kk c) (hmin : ∀ j, j < kk → ¬ ∃ e, Rel p (fun j => cf (x j)) j e) :
    Calls Try.prog 80 #[.int .i64 p, .func (.func fid) #[] caps] w fun e w' => ∃ v, e = .returned v ∧ IsRow w' v c ∧ w.grownBy w' (some gB) := by
  have hp2 := hp.pos
  have hpH := Lib.hid hp
  have hxH := Lib.hid hx
  have hNH := Lib.hid hN
  have hcallH := Lib.hid hcall
  have hkeepH := Lib.hid hkeep
  have hboxH := Lib.hid hbox
  have hcH := Lib.hid hc
  have hminH := Lib.hid hmin
  have h0H := Lib.hid h0
  clear hp hx hN hcall hkeep hbox hc hmin h0
  go_enter Try.func80, Try.ntmps80
  go_wp2_with fail
  go_loopw [5, 6, 7] (fun vK vT kv wr => ∃ (k : Nat) (RK RT : Nat → Value) (Kf Tf : Nat → List Int), kv = .int .i64 (k : Int) ∧ Hid (KS p x N k Kf Tf) ∧ Hid (RwsK wr w.heap.size vK k RK Kf) ∧ Hid (RwsK wr w.heap.size vT k RT Tf) ∧ Hid (∀ g, vK.ownBlock = some g → vT.ownBlock ≠ some g) ∧ Hid (St k wr) ∧ w.grownBy wr (some gB)) (fun _ _ kv _ => N - (intOf kv).toNat)
  case atStart => exact ⟨0, fun _ => .slice none 0 0, fun _ => .slice none 0 0, fun _ => [], fun _ => [], rfl, Lib.hid (KS.zero _ _ _ _ _), Lib.hid (RwsK.nil _ _ _ _), Lib.hid (RwsK.nil _ _ _ _), Lib.hid (fun g e => by cases e), h0H, World.grownBy.refl _ _⟩
  case round =>
    clear h0H
    rename World => w0
    obtain ⟨k, RK, RT, Kf, Tf, rfl, hS, hK, hT, hap, hSt, hg⟩ := hrel
    have hkN := hS.out.le
    obtain ⟨oK, cK, rfl, _, hcKm, _⟩ := hK.out.at
    obtain ⟨oT, cT, rfl, _, hcTm, _⟩ := hT.out.at
    unfold maxLen at hcKm hcTm
    have hneK := Lib.hid (show (Value.slice oK k cK).ownBlock = none ∨ (Value.slice oK k cK).ownBlock ≠ some gB from .inr fun e => by have := (hK.out.own.lt gB e).1; omega)
    have hneT := Lib.hid (show (Value.slice oT k cT).ownBlock = none ∨ (Value.slice oT k cT).ownBlock ≠ some gB from .inr fun e => by have := (hT.out.own.lt gB e).1; omega)
    have hPl : w.heap.size ≤ w0.heap.size := hg.size
    have hred := Lib.hid (hS.out.st.red hpH.out (hxH.out k) k (Nat.le_refl k))
    have hrle := Lib.hid (fun i (hi : i ≤ k) => red_len (p := p) (T := Tf) (o := onek k) (fun i (hi : i < k) => (hS.out.len i hi).2) (hNH.out k) (fun a => a.length - 1) i hi)
    have hredP := Lib.hid (fun i (hi : i ≤ k) => hS.out.st.red hpH.out (hxH.out k) i hi)
    obtain ⟨rv, hrv⟩ : ∃ f, f = fun i => (redN p (fun a => a.length - 1) Kf Tf (x k) (onek k) i).1 := ⟨_, rfl⟩
    obtain ⟨ro, hro⟩ : ∃ f, f = fun i => (redN p (fun a => a.length - 1) Kf Tf (x k) (onek k) i).2 := ⟨_, rfl⟩
    have hst1 := Lib.hid (fun i => (by rw [hrv]; rfl : rv (i + 1) = addp p (rv i) (Kf i) (-(cf (rv i) ((Kf i).length - 1)) * invp p (cf (Kf i) ((Kf i).length - 1)))))
    have hst2 := Lib.hid (fun i => (by rw [hrv, hro]; rfl : ro (i + 1) = addp p (ro i) (Tf i) (-(cf (rv i) ((Kf i).length - 1)) * invp p (cf (Kf i) ((Kf i).length - 1)))))
    have hrv0 := Lib.hid (by rw [hrv]; rfl : rv 0 = x k)
    have hro0 := Lib.hid (by rw [hro]; rfl : ro 0 = onek k)
    rw [show (redN p (fun a => a.length - 1) Kf Tf (x k) (onek k) k).1 = rv k by rw [hrv], show (redN p (fun a => a.length - 1) Kf Tf (x k) (onek k) k).2 = ro k by rw [hro]] at hred
    have hrle2 := Lib.hid (fun i (hi : i ≤ k) => (by rw [hrv]; exact hrle.out i hi : (rv i).length ≤ N))
    have hrP2 := Lib.hid (fun i (hi : i ≤ k) => (by rw [hrv, hro]; exact hredP.out i hi : Red p x (fun a => a.length - 1) k Kf i (rv i) (ro i)))
    clear hrv hro hrle hredP
    go_wp2_with fail
    refine (hcallH.out k _ hSt.out).mono ?_
    rintro e w1 ⟨v, rfl, hv, hSt1, hg1⟩
    obtain ⟨av, cv, rfl⟩ := hv.sl
    have hsb1 : ∀ g, some gB = some g → SBlk w0 g := fun g e => by cases e; exact hboxH.out _ _ hSt.out
    have hK1 := hK.out.kept hg1 hsb1 hneK.out
    have hT1 := hT.out.kept hg1 hsb1 hneT.out
    have hg1' := grownK_trans hg hg1
    have hV0 := Blk.new w1 #[.slice av (x k).length cv] 55
    have hO0 := Blk.newAt (w := w1.alloc (.cells #[.slice av (x k).length cv] 55)) (n := w1.heap.size + 1) (by simp) (arr (k + 1) fun _ => .int .i64 0) 2
    have c0 : ((w1.alloc (.cells #[.slice av (x k).length cv] 55)).alloc (.cells (arr (k + 1) fun _ => .int .i64 0) 2)).cell? ⟨w1.heap.size + 1, k, none⟩ = some (.int .i64 0) := by rw [hO0.cell, arr_get, if_pos (by omega)]
    have c1 := hO0.free k
    have hn2 : Below w1.heap.size w1 ((w1.alloc (.cells #[.slice av (x k).length cv] 55)).alloc (.cells ((arr (k + 1) fun _ => Value.int .i64 0).setIfInBounds k (.int .i64 1)) 2)) := (below_new w1 _).alloc (by simp) _
    have hO2 := Blk.newAt (w := w1.alloc (.cells #[.slice av (x k).length cv] 55)) (n := w1.heap.size + 1) (by simp) ((arr (k + 1) fun _ => Value.int .i64 0).setIfInBounds k (.int .i64 1)) 2
    have hV2 := hV0.alloc (.cells ((arr (k + 1) fun _ => Value.int .i64 0).setIfInBounds k (.int .i64 1)) 2)
    have hO3 := Lib.hid (onek_row hO2 (by omega))
    have hK2 := Lib.hid (hK1.below hn2)
    have hT2 := Lib.hid (hT1.below hn2)
    have hSt2 := Lib.hid (hkeepH.out _ _ _ none hSt1 (belowK_grown hn2 none) (fun g e => by cases e))
    have hg2 := grownK_past hg1' (belowK_grown hn2 none) (fun g e => by cases e)
    have hv2 := Lib.hid (hv.below hn2)
    have hV3 := hV2.cast (cs' := arr 1 fun _ => .slice av (x k).length cv) rfl
    have hgV0 := Lib.hid (show w.heap.size ≤ w1.heap.size by have := hg1.size; omega)
    have hKV0 := Lib.hid (show (Value.slice oK k cK).ownBlock ≠ some w1.heap.size from fun e => by have := (hK1.own.lt _ e).2; omega)
    have hTV0 := Lib.hid (show (Value.slice oT k cT).ownBlock ≠ some w1.heap.size from fun e => by have := (hT1.own.lt _ e).2; omega)
    clear hK hT hSt hSt1 hg hg1 hg1' hsb1 hK1 hT1 hV0 hO0 hn2 hO2 hV2 hv hneK hneT
    go_wp2_with (at_make; refine wpl_make_one rfl 55 2 _ _ rfl (.int .i64 0) Try.underlying55 iInt rfl .i64 .i64 _ _ (k + 1) rfl rfl (by omega) (by omega) (by omega) ?_)
    clear c0 c1
    generalize (w1.alloc (.cells #[.slice av (x k).length cv] 55)).alloc (.cells ((arr (k + 1) fun _ => Value.int .i64 0).setIfInBounds k (.int .i64 1)) 2) = w2 at *
    obtain ⟨gV, hgVe⟩ : ∃ gV, w1.heap.size = gV := ⟨_, rfl⟩
    rw [hgVe] at hV3 hO3 hgV0 hKV0 hTV0 ⊢
    have hgV := hgV0.out
    have hKV := hKV0.out
    have hTV := hTV0.out
    clear hgVe hgV0 hKV0 hTV0
    go_loopw [9, 26] (fun ov iv wr => ∃ (ix : Nat) (av : Option Addr) (cv : Nat), ix ≤ k ∧ iv = .int .i64 (ix : Int) ∧ Blk wr gV (arr 1 fun _ => .slice av (rv ix).length cv) 55 ∧ Hid (IsRow wr (.slice av (rv ix).length cv) (rv ix)) ∧ Hid (IsRow wr ov (ro ix)) ∧ Hid (RwsK wr w.heap.size (.slice oK k cK) k RK Kf) ∧ Hid (RwsK wr w.heap.size (.slice oT k cT) k RT Tf) ∧ Hid (St (k + 1) wr) ∧ w.grownBy wr (some gB)) (fun _ iv _ => k - (intOf iv).toNat)
    case atStart => exact ⟨0, av, cv, by omega, rfl, by rw [hrv0.out]; exact hV3, by rw [hrv0.out]; exact hv2, by rw [hro0.out]; exact hO3, hK2, hT2, hSt2, hg2⟩
    case round =>
      clear hV3 hv2 hO3 hK2 hT2 hSt2 hg2
      rename World => wq
      obtain ⟨ix, av, cv, hix, rfl, hV, hvv, hvo, hK, hT, hSt, hg⟩ := hrel
      obtain ⟨lv, hlv⟩ : ∃ lv, (rv ix).length = lv := ⟨_, rfl⟩
      rw [hlv] at hV hvv
      have hlvH := Lib.hid hlv
      clear hlv
      obtain ⟨ao, co, rfl⟩ := hvo.out.sl
      by_cases hlt : ix < k
      · obtain ⟨gK, rfl, _, hcK⟩ := hK.out.slc (by omega)
        obtain ⟨gT, rfl, _, hcT⟩ := hT.out.slc (by omega)
        have c0 := hcK ix hlt
        have d0 := hcT ix hlt
        have hvb := Lib.hid (hK.out.row ix hlt)
        have hvt := Lib.hid (hT.out.row ix hlt)
        obtain ⟨ab, cb, hbs⟩ := hvb.out.sl
        rw [hbs] at c0 hvb
        obtain ⟨lb, hlb⟩ : ∃ lb, (Kf ix).length = lb := ⟨_, rfl⟩
        obtain ⟨lo, hlo⟩ : ∃ lo, (ro ix).length = lo := ⟨_, rfl⟩
        rw [hlb] at c0 hvb
        rw [hlo] at hvo
        rw [hlo]
        have hlb0 : 0 < lb := by have := (hS.out.len ix hlt).1; omega
        have hlbI : ((lb : Int) - 1) = ((lb - 1 : Nat) : Int) := by omega
        have hlbN : lb ≤ N := by have := (hS.out.len ix hlt).2; omega
        have hRi := hrP2.out ix hix
        have hKp := (hS.out.st.po ix hlt)
        have c1 : wq.cell? ⟨gV, 0, none⟩ = some (.slice av lv cv) := by rw [hV.cell]; rfl
        obtain ⟨A, hA⟩ : ∃ A, cf (rv ix) (lb - 1) = A := ⟨_, rfl⟩
        obtain ⟨Bv, hBv⟩ : ∃ Bv, cf (Kf ix) (lb - 1) = Bv := ⟨_, rfl⟩
        obtain ⟨Iv, hIv⟩ : ∃ Iv, invp p Bv = Iv := ⟨_, rfl⟩
        have hA0 : 0 ≤ A := hA ▸ (hRi.pv.md _).1
        have hA6 : A ≤ 6 := by have := (hRi.pv.md (lb - 1)).2; omega
        have hB0 : 0 < Bv := by
          have h1 := (hKp.1.md (lb - 1)).1
          have h2 := hKp.2.2.2
          have h3 : cf (Kf ix) ((Kf ix).length - 1) ≠ 0 := h2
          rw [hlb, hBv] at h3
          omega
        have hBp : Bv < p := hBv ▸ (hKp.1.md _).2
        have hI := invp_spec hpH.out hB0 hBp
        rw [hIv] at hI
        have hI0 : 0 < Iv := hI.1
        have hI6 : Iv ≤ 6 := by have := hI.2.1; omega
        have hAI : 0 ≤ A * Iv := Int.mul_nonneg hA0 (by omega)
        have hAI2 : A * Iv ≤ 36 := Int.le_trans (Int.mul_le_mul hA6 hI6 (by omega) (by omega)) (by decide)
        obtain ⟨Fi, hFi⟩ : ∃ Fi, -A * Iv = Fi := ⟨_, rfl⟩
        have hFe : Fi = -(A * Iv) := by rw [← hFi, Int.neg_mul]
        have hF0 : -36 ≤ Fi := by omega
        have hF1 : Fi ≤ 0 := by omega
        have hs1 := hst1.out ix
        have hs2 := hst2.out ix
        rw [hlb, hA, hBv, hIv, hFi] at hs1 hs2
        have hcV := Lib.hid (fun va vb w (h1 : IsRow w va (rv ix)) (h2 : IsRow w vb (Kf ix)) => (hs1 ▸ combine_any va vb (rv ix) (Kf ix) p Fi w hpH.out h1 h2 hRi.pv.md hKp.1.md (by omega) (by omega) (by have := hrle2.out ix hix; omega) (by omega) : Calls Try.prog 61 #[.int .i64 p, va, vb, .int .i64 Fi] w fun e w' => ∃ v, e = .returned v ∧ IsRow w' v (rv (ix + 1)) ∧ Below w.heap.size w w'))
        have hcO := Lib.hid (fun va vb w (h1 : IsRow w va (ro ix)) (h2 : IsRow w vb (Tf ix)) => (hs2 ▸ combine_any va vb (ro ix) (Tf ix) p Fi w hpH.out h1 h2 hRi.po.md hKp.2.1.md (by omega) (by omega) (by have := hRi.len; omega) (by have := hKp.2.2.1; omega) : Calls Try.prog 61 #[.int .i64 p, va, vb, .int .i64 Fi] w fun e w' => ∃ v, e = .returned v ∧ IsRow w' v (ro (ix + 1)) ∧ Below w.heap.size w w'))
        have hat := Lib.hid (by have := at_any _ (rv ix) (lb - 1) wq hvv.out (by omega); rw [hA] at this; exact this)
        have hld := Lib.hid (by have := lead_any _ (Kf ix) wq hvb.out; rw [hlb, hBv] at this; exact this)
        have hin := Lib.hid (by have := inverse_any p Bv wq hpH.out (by omega) hBp; rw [hIv] at this; exact this)
        clear hs1 hs2 hFe hI hKp hRi hA hBv hIv hlb hlo hbs hcK hcT hAI hAI2
        go_wp2_with fail
        refine hat.out.mono ?_
        rintro e y1 ⟨rfl, rfl⟩
        go_wp2_with fail
        refine hld.out.mono ?_
        rintro e y2 ⟨rfl, rfl⟩
        go_wp2_with fail
        refine hin.out.mono ?_
        rintro e y3 ⟨rfl, rfl⟩
        go_wp2_with fail
        go_upto_region 11 with (fail)
        refine gen_last2K (w := _) (by kernel_rfl) (by kernel_rfl) (by kernel_rfl) 13 14 (by kernel_rfl)
            (fun i => ([fun zv _ => zv = .int .i64 p, fun zv _ => zv = (.slice av lv cv), fun v w => IsRow w v (Kf ix), fun zv _ => zv = .int .i64 Fi, fun v w => IsRow w v (rv (ix + 1)), fun zv _ => zv = .int .i64 p, fun v w => IsRow w v (ro ix), fun zv _ => zv = .slice (some ⟨gT, 0, none⟩) k cT, fun zv _ => zv = .int .i64 ((ix : Nat) : Int), fun zv _ => zv = .pointer (some ⟨gT, ix, none⟩), fun zv _ => zv = (RT ix), fun zv _ => zv = .int .i64 Fi, fun v w => IsRow w v (ro (ix + 1)), fun _ _ => True, fun _ _ => True] : List (Value → World → Prop)).getD i (fun _ _ => True))
            (fun w' => True) trivial (fun w1 w2 h hb => trivial) ?_ ?_ ?_
        · intro i v w1 w2 h hb
          rcases i with _|_|_|_|_|_|_|_|_|_|_|_|_|_|_|i
          · exact h
          · exact h
          · exact (show IsRow w1 v (Kf ix) from h).below hb
          · exact h
          · exact (show IsRow w1 v (rv (ix + 1)) from h).below hb
          · exact h
          · exact (show IsRow w1 v (ro ix) from h).below hb
          · exact h
          · exact h
          · exact h
          · exact h
          · exact h
          · exact (show IsRow w1 v (ro (ix + 1)) from h).below hb
          · exact h
          · exact h
          · exact h
        · intro i o ho hiZ hiZ2 a w2 hBl hSx hrd hpar
          rcases i with _|_|_|_|_|_|_|_|_|_|_|_|_|_|_|i
          · obtain rfl := Option.some.inj ho
            refine .inl ⟨rfl, ?_⟩
            have e0 : a.eval (.tmp 0) = .int .i64 p := hpar 0 _ (by kernel_rfl) (by kernel_rfl)
            exact wpv_of (wp_move _ _ rfl e0) (fun _ _ => rfl)
          · obtain rfl := Option.some.inj ho
            refine .inl ⟨rfl, ?_⟩
            have e8 : a.eval (.tmp 8) = .pointer (some ⟨gV, 0, none⟩) := hpar 8 _ (by kernel_rfl) (by kernel_rfl)
            exact wpv_of (wp_load_slice 55 2 _ rfl _ e8 uRowK _ (by rw [(hV.keep hBl).cell]; rfl)) (fun _ _ => rfl)
          · obtain rfl := Option.some.inj ho
            refine .inl ⟨rfl, ?_⟩
            have e11 : a.eval (.tmp 11) = (.slice ab lb cb) := hpar 11 _ (by kernel_rfl) (by kernel_rfl)
            have h11 := (hvb.out).below hBl
            exact wpv_of (wp_move _ _ rfl e11) (fun w' hb => by have h := h11; exact h11.below hb)
          · obtain rfl := Option.some.inj ho
            refine .inl ⟨rfl, ?_⟩
            have e12 : a.eval (.tmp 12) = .int .i64 Fi := hpar 12 _ (by kernel_rfl) (by kernel_rfl)
            exact wpv_of (wp_move _ _ rfl e12) (fun _ _ => rfl)
          · obtain rfl := Option.some.inj ho
            refine .inl ⟨rfl, ?_⟩
            have e42 : a.eval (.tmp 42) = .int .i64 p := hrd 0 _ 42 rfl rfl (by kernel_rfl) (by kernel_rfl)
            have e43 : a.eval (.tmp 43) = (.slice av lv cv) := hrd 1 _ 43 rfl rfl (by kernel_rfl) (by kernel_rfl)
            have h44 : (fun v w => IsRow w v (Kf ix)) (a.eval (.tmp 44)) w2 := hrd 2 _ 44 rfl rfl (by kernel_rfl) (by kernel_rfl)
            generalize e44 : a.eval (.tmp 44) = v44 at h44
            have e45 : a.eval (.tmp 45) = .int .i64 Fi := hrd 3 _ 45 rfl rfl (by kernel_rfl) (by kernel_rfl)
            exact wpv_call 61 [.tmp 42, .tmp 43, .tmp 44, .tmp 45] _ rfl [.int .i64 p, (.slice av lv cv), v44, .int .i64 Fi] (by simp only [List.map_cons, List.map_nil, e42, e43, e44, e45]) Try.call61 (hcV.out _ _ w2 (hvv.out.below hBl) h44)
          · obtain rfl := Option.some.inj ho
            refine .inl ⟨rfl, ?_⟩
            have e0 : a.eval (.tmp 0) = .int .i64 p := hpar 0 _ (by kernel_rfl) (by kernel_rfl)
            exact wpv_of (wp_move _ _ rfl e0) (fun _ _ => rfl)
          · obtain rfl := Option.some.inj ho
            refine .inl ⟨rfl, ?_⟩
            have e9 : a.eval (.tmp 9) = (.slice ao lo co) := hpar 9 _ (by kernel_rfl) (by kernel_rfl)
            have h9 := (hvo.out).below hBl
            exact wpv_of (wp_move _ _ rfl e9) (fun w' hb => by have h := h9; exact h9.below hb)
          · obtain rfl := Option.some.inj ho
            refine .inl ⟨rfl, ?_⟩
            have e6 : a.eval (.tmp 6) = .slice (some ⟨gT, 0, none⟩) k cT := hpar 6 _ (by kernel_rfl) (by kernel_rfl)
            exact wpv_of (wp_move _ _ rfl e6) (fun _ _ => rfl)
          · obtain rfl := Option.some.inj ho
            refine .inl ⟨rfl, ?_⟩
            have e10 : a.eval (.tmp 10) = .int .i64 ((ix : Nat) : Int) := hpar 10 _ (by kernel_rfl) (by kernel_rfl)
            exact wpv_of (wp_move _ _ rfl e10) (fun _ _ => rfl)
          · obtain rfl := Option.some.inj ho
            refine .inl ⟨rfl, ?_⟩
            have e49 : a.eval (.tmp 49) = .slice (some ⟨gT, 0, none⟩) k cT := hrd 7 _ 49 rfl rfl (by kernel_rfl) (by kernel_rfl)
            have e50 : a.eval (.tmp 50) = .int .i64 ((ix : Nat) : Int) := hrd 8 _ 50 rfl rfl (by kernel_rfl) (by kernel_rfl)
            exact wpv_of (wp_index_row1 49 55 _ _ rfl uRowsK sRowK gT k cT ix .i64 e49 e50 hlt) (fun _ _ => rfl)
          · obtain rfl := Option.some.inj ho
            refine .inl ⟨rfl, ?_⟩
            have e51 : a.eval (.tmp 51) = .pointer (some ⟨gT, ix, none⟩) := hrd 9 _ 51 rfl rfl (by kernel_rfl) (by kernel_rfl)
            exact wpv_of (wp_load_slice 55 2 _ rfl _ e51 uRowK _ (cell_below d0 hBl)) (fun _ _ => rfl)
          · obtain rfl := Option.some.inj ho
            refine .inl ⟨rfl, ?_⟩
            have e12 : a.eval (.tmp 12) = .int .i64 Fi := hpar 12 _ (by kernel_rfl) (by kernel_rfl)
            exact wpv_of (wp_move _ _ rfl e12) (fun _ _ => rfl)
          · obtain rfl := Option.some.inj ho
            refine .inl ⟨rfl, ?_⟩
            have e47 : a.eval (.tmp 47) = .int .i64 p := hrd 5 _ 47 rfl rfl (by kernel_rfl) (by kernel_rfl)
            have h48 : (fun v w => IsRow w v (ro ix)) (a.eval (.tmp 48)) w2 := hrd 6 _ 48 rfl rfl (by kernel_rfl) (by kernel_rfl)
            generalize e48 : a.eval (.tmp 48) = v48 at h48
            have e52 : a.eval (.tmp 52) = (RT ix) := hrd 10 _ 52 rfl rfl (by kernel_rfl) (by kernel_rfl)
            have e53 : a.eval (.tmp 53) = .int .i64 Fi := hrd 11 _ 53 rfl rfl (by kernel_rfl) (by kernel_rfl)
            exact wpv_call 61 [.tmp 47, .tmp 48, .tmp 52, .tmp 53] _ rfl [.int .i64 p, v48, (RT ix), .int .i64 Fi] (by simp only [List.map_cons, List.map_nil, e47, e48, e52, e53]) Try.call61 (hcO.out _ _ w2 h48 (hvt.out.below hBl))
          · obtain rfl := Option.some.inj ho
            exact absurd rfl hiZ
          · obtain rfl := Option.some.inj ho
            exact absurd rfl hiZ2
          · simp at ho
        intro oZ oZ2 hoZ hoZ2 vals xE hBx hSx hc0
        obtain rfl := Option.some.inj hoZ
        obtain rfl := Option.some.inj hoZ2
        clear hoZ hoZ2
        have e0 : vals 0 = .int .i64 p := hc0 0 (by simp) (by decide) (by decide)
        have e1 : vals 1 = (.slice av lv cv) := hc0 1 (by simp) (by decide) (by decide)
        have cE2 : (fun v w => IsRow w v (Kf ix)) (vals 2) xE := hc0 2 (by simp) (by decide) (by decide)
        generalize ev2 : vals 2 = uE2 at cE2
        have e3 : vals 3 = .int .i64 Fi := hc0 3 (by simp) (by decide) (by decide)
        have cE4 : (fun v w => IsRow w v (rv (ix + 1))) (vals 4) xE := hc0 4 (by simp) (by decide) (by decide)
        generalize ev4 : vals 4 = uE4 at cE4
        have e5 : vals 5 = .int .i64 p := hc0 5 (by simp) (by decide) (by decide)
        have cE6 : (fun v w => IsRow w v (ro ix)) (vals 6) xE := hc0 6 (by simp) (by decide) (by decide)
        generalize ev6 : vals 6 = uE6 at cE6
        have e7 : vals 7 = .slice (some ⟨gT, 0, none⟩) k cT := hc0 7 (by simp) (by decide) (by decide)
        have e8 : vals 8 = .int .i64 ((ix : Nat) : Int) := hc0 8 (by simp) (by decide) (by decide)
        have e9 : vals 9 = .pointer (some ⟨gT, ix, none⟩) := hc0 9 (by simp) (by decide) (by decide)
        have e10 : vals 10 = (RT ix) := hc0 10 (by simp) (by decide) (by decide)
        have e11 : vals 11 = .int .i64 Fi := hc0 11 (by simp) (by decide) (by decide)
        have cE12 : (fun v w => IsRow w v (ro (ix + 1))) (vals 12) xE := hc0 12 (by simp) (by decide) (by decide)
        generalize ev12 : vals 12 = uE12 at cE12
        refine ⟨rfl, rfl, ?_⟩
        simp only [List.length_cons, List.length_nil, Nat.zero_add, Nat.reduceAdd, List.replicate, seen2, Bool.false_eq_true, if_false, putAll, if_true, Act.put, List.setIfInBounds_toArray, List.set_cons_zero, List.set_cons_succ, e0, e1, ev2, e3, ev4, e5, ev6, e7, e8, e9, e10, e11, ev12]
        replace hV := hV.keep hBx
        clear hc0 hSx e0 e1 ev2 e3 ev4 e5 ev6 e7 e8 e9 e10 e11 ev12
        have hv2 := show IsRow xE uE4 (rv (ix + 1)) from cE4
        have ho2 := show IsRow xE uE12 (ro (ix + 1)) from cE12
        clear cE2 cE6 cE4 cE12
        have hSx := Lib.hid (SBlk.of_blk1 hV)
        have hKx := Lib.hid (hK.out.below hBx)
        have hTx := Lib.hid (hT.out.below hBx)
        have hStx := Lib.hid (hkeepH.out _ _ _ none hSt.out (belowK_grown hBx none) (fun g e => by cases e))
        have hgx := grownK_past hg (belowK_grown hBx none) (fun g e => by cases e)
        obtain ⟨av2, cv2, rfl⟩ := hv2.sl
        refine wp_store_arrN 55 _ _ rfl gV 0 rfl (.slice av2 (rv (ix + 1)).length cv2) rfl 1 (fun _ => .slice av lv cv) _ hV (by omega) sRowK rfl ?_
        refine wp_assignK _ uE12 rfl rfl ?_
        have hsg := setRowK_grown xE gV (arr 1 (fun j => if j = 0 then .slice av2 (rv (ix + 1)).length cv2 else .slice av lv cv))
        have hVn := (hV.setRow_same (cs := arr 1 (fun j => if j = 0 then .slice av2 (rv (ix + 1)).length cv2 else .slice av lv cv))).cast (arr_ext (g := fun _ => .slice av2 (rv (ix + 1)).length cv2) fun j hj => by rw [if_pos (by omega)])
        have hsb : ∀ g, some gV = some g → SBlk xE g := fun g e => by cases e; exact hSx.out
        have hv3 := Lib.hid (hv2.keptS hsg hsb)
        have ho3 := Lib.hid (ho2.keptS hsg hsb)
        have hK3 := Lib.hid (hKx.out.kept hsg hsb (.inr hKV))
        have hT3 := Lib.hid (hTx.out.kept hsg hsb (.inr hTV))
        have hSt3 := Lib.hid (hkeepH.out _ _ _ (some gV) hStx.out hsg (fun g e => by cases e; exact ⟨hgV, hSx.out⟩))
        have hg3 := grownK_past hgx hsg (fun g e => by cases e; exact hgV)
        clear hv2 ho2 hSx hKx hTx hStx hgx hsb hsg hV hBx hK hT hSt hg hvv hvo hvb hvt d0
        try simp only [Act.put, List.setIfInBounds_toArray, List.set_cons_zero, List.set_cons_succ]
        generalize World.setRow xE gV _ = vE at *
        go_wp2_with fail
        go_roundw
        case rel => exact ⟨ix + 1, av2, cv2, by omega, by go_num, hVn, hv3, ho3, hK3, hT3, hSt3, hg3⟩
        case measure => simp [intOf] <;> omega
      · obtain rfl : ix = k := by omega
        have c1 : wq.cell? ⟨gV, 0, none⟩ = some (.slice av lv cv) := by rw [hV.cell]; rfl
        by_cases hlv0 : lv = 0
        · subst hlv0
          have hce : ro ix = c := Known.same hpH.out hS.out.st.none hminH.out (hred.out.done (List.length_eq_zero_iff.1 hlvH.out)) hcH.out
          go_wp2_with fail
          go_ret
          exact ⟨_, rfl, by rw [← hce]; exact hvo.out, hg⟩
        · have hlv1 : ((lv : Int) == 0) = false := by rw [beq_eq_false_iff_ne]; omega
          have hvn : rv ix ≠ [] := fun e => hlv0 (by have := hlvH.out; rw [e] at this; exact this.symm)
          have hnext := Lib.hid (fun a (ha : a ≤ ix) h1 h2 => hS.out.next hpH.out hred.out hvn (hrle2.out ix (Nat.le_refl _)) a ha h1 h2)
          have hN1 := Lib.hid (fun a (ha : a ≤ ix) h1 h2 => (hnext.out a ha h1 h2).le)
          have hidx := Lib.hid (indexL _ ix _ RK Kf (rv ix) _ gV wq hK.out (by omega) hvv.out c1)
          unfold relF at hidx
          rw [hlvH.out] at hidx hnext hN1
          have hSV := Lib.hid (SBlk.of_blk1 hV)
          clear hvn hlv0
          go_wp2_with fail
          refine hidx.out.mono ?_
          rintro e y1 ⟨a, ha, ha1, ha2, rfl, rfl⟩
          have hkN2 := hN1.out a ha ha1 ha2
          have hKS := Lib.hid (hnext.out a ha ha1 ha2)
          clear hidx hnext hN1 ha1 ha2
          have hb1 := below_new wq (.cells #[.slice av lv cv] 55)
          have hB1 := Blk.new wq #[.slice av lv cv] 55
          have hK1 := hK.out.below hb1
          have hT1 := hT.out.below hb1
          have hv1 := hvv.out.below hb1
          have ho1 := hvo.out.below hb1
          have hSt1 := hkeepH.out _ _ _ none hSt.out (belowK_grown hb1 none) (fun g e => by cases e)
          have hg1 := grownK_past hg (belowK_grown hb1 none) (fun g e => by cases e)
          have hwq : w.heap.size ≤ (wq.alloc (.cells #[.slice av lv cv] 55)).heap.size := hg1.size
          have hI1 := Lib.hid (insR_any _ ix a w.heap.size wq.heap.size RK Kf _ (rv ix) _ hK1 ha (by omega) hv1 hB1 (fun e => by have := (hK.out.own.lt _ e).2; omega) hwq)
          unfold InsP at hI1
          have hK1H := Lib.hid hK1
          have hT1H := Lib.hid hT1
          have ho1H := Lib.hid ho1
          have hSt1H := Lib.hid hSt1
          clear hb1 hB1 hK1 hT1 hv1 ho1 hSt1 hwq hK hT hSt hg hvv hvo hV
          by_cases hak : a < ix
          · rw [if_pos hak]
            go_wp2_with fail
            refine hI1.out.mono ?_
            rintro e y2 ⟨u1, rfl, hK2, hg2, hfar1⟩
            have hsbK : ∀ g, (Value.slice oK ix cK).ownBlock = some g → SBlk (wq.alloc (.cells #[.slice av lv cv] 55)) g := fun g e => hK1H.out.sb g e
            have hT2 := hT1H.out.kept hg2 hsbK (by
              cases h : (Value.slice oT ix cT).ownBlock with
              | none => exact .inl rfl
              | some q => exact .inr fun e => hap.out q e.symm h)
            have ho2 := ho1H.out.keptS hg2 hsbK
            have hSt2 := hkeepH.out _ _ _ _ hSt1H.out hg2 (fun g e => ⟨(hK1H.out.own.lt g e).1, hsbK g e⟩)
            have hg3 := grownK_past hg1 hg2 (fun g e => (hK1H.out.own.lt g e).1)
            have hap2 : ∀ g, u1.ownBlock = some g → (Value.slice oT ix cT).ownBlock ≠ some g := fun g e f => by
              rcases hfar1 with h | h
              · exact hap.out g (h ▸ e) f
              · have h1 := h g e
                have h2 := (hT1H.out.own.lt g f).2
                omega
            obtain ⟨oU, cU, rfl, _, hcUm, _⟩ := hK2.at
            unfold maxLen at hcUm
            have hb4 := below_new y2 (.cells #[.slice ao (ro ix).length co] 55)
            have hB4 := Blk.new y2 #[.slice ao (ro ix).length co] 55
            have hK4 := hK2.below hb4
            have hT4 := hT2.below hb4
            have ho4 := ho2.below hb4
            have hSt4 := hkeepH.out _ _ _ none hSt2 (belowK_grown hb4 none) (fun g e => by cases e)
            have hg4 := grownK_past hg3 (belowK_grown hb4 none) (fun g e => by cases e)
            have hwy : w.heap.size ≤ (y2.alloc (.cells #[.slice ao (ro ix).length co] 55)).heap.size := hg4.size
            have hI2 := Lib.hid (insR_any _ ix a w.heap.size y2.heap.size RT Tf _ (ro ix) _ hT4 ha (by omega) ho4 hB4 (fun e => by have := (hT2.own.lt _ e).2; omega) hwy)
            unfold InsP at hI2
            have hK4H := Lib.hid hK4
            have hT4H := Lib.hid hT4
            have hSt4H := Lib.hid hSt4
            have hap2H := Lib.hid hap2
            clear hK2 hg2 hfar1 hsbK hT2 ho2 hSt2 hg3 hap2 hb4 hB4 hK4 hT4 ho4 hSt4 hwy hI1 hK1H hT1H ho1H hSt1H hg1
            go_wp2_with fail
            refine hI2.out.mono ?_
            rintro e y3 ⟨u2, rfl, hT5, hg5, hfar2⟩
            have hsbT : ∀ g, (Value.slice oT ix cT).ownBlock = some g → SBlk (y2.alloc (.cells #[.slice ao (ro ix).length co] 55)) g := fun g e => hT4H.out.sb g e
            have hK5 := Lib.hid (hK4H.out.kept hg5 hsbT (by
              cases h : (Value.slice oU (ix + 1) cU).ownBlock with
              | none => exact .inl rfl
              | some q => exact .inr fun e => hap2H.out q h e.symm))
            have hSt5 := Lib.hid (hkeepH.out _ _ _ _ hSt4H.out hg5 (fun g e => ⟨(hT4H.out.own.lt g e).1, hsbT g e⟩))
            have hg6 := grownK_past hg4 hg5 (fun g e => (hT4H.out.own.lt g e).1)
            have hap3 := Lib.hid (fun g (e : (Value.slice oU (ix + 1) cU).ownBlock = some g) (f : u2.ownBlock = some g) => by
              rcases hfar2 with h | h
              · exact hap2H.out g e (h ▸ f)
              · have h1 := h g f
                have h2 := (hK4H.out.own.lt g e).2
                omega)
            have hT6 := Lib.hid hT5
            clear hsbT hT5 hg5 hfar2 hK4H hT4H hSt4H hap2H hI2 hg4
            go_wp2_with fail
            go_roundw
            case rel => exact ⟨ix + 1, _, _, _, _, by go_num, hKS, hK5, hT6, hap3, hSt5, hg6⟩
            case measure => simp [intOf] <;> omega
          · rw [if_neg hak]
            obtain rfl : ix = a := by omega
            go_wp2_with fail
            refine hI1.out.mono ?_
            rintro e y2 ⟨u1, rfl, hK2, hg2, hfar1⟩
            have hsbK : ∀ g, (Value.slice oK ix cK).ownBlock = some g → SBlk (wq.alloc (.cells #[.slice av lv cv] 55)) g := fun g e => hK1H.out.sb g e
            have hT2 := hT1H.out.kept hg2 hsbK (by
              cases h : (Value.slice oT ix cT).ownBlock with
              | none => exact .inl rfl
              | some q => exact .inr fun e => hap.out q e.symm h)
            have ho2 := ho1H.out.keptS hg2 hsbK
            have hSt2 := hkeepH.out _ _ _ _ hSt1H.out hg2 (fun g e => ⟨(hK1H.out.own.lt g e).1, hsbK g e⟩)
            have hg3 := grownK_past hg1 hg2 (fun g e => (hK1H.out.own.lt g e).1)
            have hap2 : ∀ g, u1.ownBlock = some g → (Value.slice oT ix cT).ownBlock ≠ some g := fun g e f => by
              rcases hfar1 with h | h
              · exact hap.out g (h ▸ e) f
              · have h1 := h g e
                have h2 := (hT1H.out.own.lt g f).2
                omega
            obtain ⟨oU, cU, rfl, _, hcUm, _⟩ := hK2.at
            unfold maxLen at hcUm
            have hb4 := below_new y2 (.cells #[.slice ao (ro ix).length co] 55)
            have hB4 := Blk.new y2 #[.slice ao (ro ix).length co] 55
            have hK4 := hK2.below hb4
            have hT4 := hT2.below hb4
            have ho4 := ho2.below hb4
            have hSt4 := hkeepH.out _ _ _ none hSt2 (belowK_grown hb4 none) (fun g e => by cases e)
            have hg4 := grownK_past hg3 (belowK_grown hb4 none) (fun g e => by cases e)
            have hwy : w.heap.size ≤ (y2.alloc (.cells #[.slice ao (ro ix).length co] 55)).heap.size := hg4.size
            have hI2 := Lib.hid (insR_any _ ix ix w.heap.size y2.heap.size RT Tf _ (ro ix) _ hT4 ha (by omega) ho4 hB4 (fun e => by have := (hT2.own.lt _ e).2; omega) hwy)
            unfold InsP at hI2
            have hK4H := Lib.hid hK4
            have hT4H := Lib.hid hT4
            have hSt4H := Lib.hid hSt4
            have hap2H := Lib.hid hap2
            clear hK2 hg2 hfar1 hsbK hT2 ho2 hSt2 hg3 hap2 hb4 hB4 hK4 hT4 ho4 hSt4 hwy hI1 hK1H hT1H ho1H hSt1H hg1
            go_wp2_with fail
            refine hI2.out.mono ?_
            rintro e y3 ⟨u2, rfl, hT5, hg5, hfar2⟩
            have hsbT : ∀ g, (Value.slice oT ix cT).ownBlock = some g → SBlk (y2.alloc (.cells #[.slice ao (ro ix).length co] 55)) g := fun g e => hT4H.out.sb g e
            have hK5 := Lib.hid (hK4H.out.kept hg5 hsbT (by
              cases h : (Value.slice oU (ix + 1) cU).ownBlock with
              | none => exact .inl rfl
              | some q => exact .inr fun e => hap2H.out q h e.symm))
            have hSt5 := Lib.hid (hkeepH.out _ _ _ _ hSt4H.out hg5 (fun g e => ⟨(hT4H.out.own.lt g e).1, hsbT g e⟩))
            have hg6 := grownK_past hg4 hg5 (fun g e => (hT4H.out.own.lt g e).1)
            have hap3 := Lib.hid (fun g (e : (Value.slice oU (ix + 1) cU).ownBlock = some g) (f : u2.ownBlock = some g) => by
              rcases hfar2 with h | h
              · exact hap2H.out g e (h ▸ f)
              · have h1 := h g f
                have h2 := (hK4H.out.own.lt g e).2
                omega)
            have hT6 := Lib.hid hT5
            clear hsbT hT5 hg5 hfar2 hK4H hT4H hSt4H hap2H hI2 hg4
            go_wp2_with fail
            go_roundw
            case rel => exact ⟨ix + 1, _, _, _, _, by go_num, hKS, hK5, hT6, hap3, hSt5, hg6⟩
            case measure => simp [intOf] <;> omega
end Go.Proofs.Ytnkkkgaojhkniab
