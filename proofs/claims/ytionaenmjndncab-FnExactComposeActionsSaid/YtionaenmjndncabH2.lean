/- Walks: the program's AddActions. -/
import Derived.Test.YtionaenmjndncabH1
set_option linter.unusedVariables false
set_option linter.unusedSimpArgs false
namespace Go.Proofs.Ytionaenmjndncab
open Go.RowKit
section
variable {P : Program} {ops : Array Oper} {rest : List Oper} {o : Oper} {a : Act} {w : World} {Q : Exit → Act → World → Prop}
theorem wpl_store_arrN (hw : Region.wanted o (yielded ops a.tmps) = true) (t : TypeId) (x y : Operand) (hop : o.op = .store t x y) (g k : Nat) (hx : a.eval x = .pointer (some ⟨g, k, none⟩)) (v : Value) (hy : a.eval y = v) (n : Nat) (R : Nat → Value) (T : TypeId) (hb : Blk w g (arr n R) T)
    (hk : k < n) (hs : (P.info? t).map (·.size) = some 1) (h1 : v.oneCell' = true) (h : wpList P ops Q rest (a.put o.dst undef) (w.setRow g (arr n (fun j => if j = k then v else R j)))) : wpList P ops Q (o :: rest) a w :=
  wpl_wanted hw fun _ hK => wp_store_arrN t x y hop g k hx v hy n R T hb hk hs h1 (hK _ _ h)
end
/-- The polynomials of a list, 0 behind its end. -/
def rowL (n : Nat) (F : Nat → Int) (i : Nat) : List Int := if i < n then mkp 64 (fun r => F (i * 64 + r)) else []
theorem rowL_lt {n i : Nat} {F : Nat → Int} (h : i < n) : rowL n F i = mkp 64 (fun r => F (i * 64 + r)) := if_pos h
theorem rowL_ge {n i : Nat} {F : Nat → Int} (h : n ≤ i) : rowL n F i = [] := if_neg (by omega)
theorem rowL_P64 {p : Int} (hp : Pr p) {n : Nat} {F : Nat → Int} (hF : By F) (hA : AllP n F p) (i : Nat) : P64 p (rowL n F i) := by
  by_cases h : i < n
  · rw [rowL_lt h]
    exact ⟨hp, ⟨mkp_Tr _ _, Md_mkp (by have := hp.pos; omega) fun r hr => ⟨(hF _).1, hA _ (by omega)⟩⟩, mkp_length 64 _⟩
  · rw [rowL_ge (by omega)]; exact P64.nil hp
theorem RwO.ext {w : World} {B n : Nat} {v : Value} {R : Nat → Value} {M M' : Nat → List Int} (h : RwO w B v n R M) (e : ∀ i, i < n → M i = M' i) : RwO w B v n R M' := ⟨h.1, fun i hi => by rw [← e i hi]; exact h.2 i hi⟩
/-- The sum of two lists. -/
def sumL (p : Int) (A B : Nat → List Int) (i : Nat) : List Int := addp p (A i) (B i) 1
theorem sumL_P64 {p : Int} {A B : Nat → List Int} {i : Nat} (hA : P64 p (A i)) (hB : P64 p (B i)) : P64 p (sumL p A B i) := ⟨hA.pr, addp_Po (by have := hA.pr.pos; omega) _ _ _, Nat.le_trans (addp_length p _ _ _) (Nat.max_le.2 ⟨hA.le, hB.le⟩)⟩
def adN (p : Int) (na nb : Nat) (F G : Nat → Int) (b c : Bool) : Nat := if b && c then tlen (sumL p (rowL na F) (rowL nb G)) (max na nb) else 0
set_option maxRecDepth 20000 in
set_option maxHeartbeats 2000000 in
theorem implAddActions_any (ga gb na nb ca cb BA BB : Nat) (F G : Nat → Int) (p : Int) (w : World) (hF : By F) (hG : By G) (ha : Fl w BA (.slice (some ⟨ga, 0, none⟩) na ca) na F) (hb : Fl w BB (.slice (some ⟨gb, 0, none⟩) nb cb) nb G) (hna : na ≤ 10000000) (hnb : nb ≤ 10000000)
    (b c : Bool) (hbb : GoodL p na nb F G ↔ b = true) (hc : decide (na ≤ 7 ∧ nb ≤ 7) = c) :
    Calls Try.prog 23 #[.int .i64 p, .slice (some ⟨ga, 0, none⟩) na ca, .slice (some ⟨gb, 0, none⟩) nb cb] w fun e w' => ∃ v, e = .returned (.tuple #[v, .int .i64 (lcode b c)]) ∧ PlS w' w.heap.size v (adN p na nb F G b c) (sumL p (rowL na F) (rowL nb G)) ∧ Below w.heap.size w w' := by
  have H1 := Lib.hid (listsCode_any ga gb na nb ca cb BA BB F G p w hF hG ha hb hna hnb b c hbb hc)
  have hX := Lib.hid (fun w1 (h : Below w.heap.size w w1) => rows_any _ na BA F w1 hF (ha.below h) hna)
  have hY := Lib.hid (fun w1 (h : Below w.heap.size w w1) => rows_any _ nb BB G w1 hG (hb.below h) hnb)
  unfold adN
  by_cases hbc : (b && c) = true
  · have hbT : b = true := by cases b <;> simp_all
    have hcT : c = true := by cases c <;> simp_all
    subst hbT hcT
    obtain ⟨hp, hAF, hAG⟩ := hbb.2 rfl
    have h7 := of_decide_eq_true hc
    have hMA := Lib.hid (rowL_P64 hp hF hAF)
    have hMB := Lib.hid (rowL_P64 hp hG hAG)
    have hMS := Lib.hid (fun i => sumL_P64 (hMA.out i) (hMB.out i))
    rw [if_pos hbc]
    obtain ⟨L, hL⟩ : ∃ L, max na nb = L := ⟨_, rfl⟩
    obtain ⟨MA, hMAe⟩ : ∃ M, rowL na F = M := ⟨_, rfl⟩
    obtain ⟨MB, hMBe⟩ : ∃ M, rowL nb G = M := ⟨_, rfl⟩
    have hAz := Lib.hid (fun j (hj : na ≤ j) => (by rw [← hMAe]; exact rowL_ge hj : MA j = []))
    have hBz := Lib.hid (fun j (hj : nb ≤ j) => (by rw [← hMBe]; exact rowL_ge hj : MB j = []))
    have hX2 := Lib.hid (fun w1 (h : Below w.heap.size w w1) => (hX.out w1 h).mono fun e w' ⟨u, R, e1, e2, e3⟩ => (⟨u, R, e1, e2.1.ext fun i hi => by rw [← hMAe, rowL_lt hi], e3⟩ : ∃ u R, e = Ending.returned u ∧ RwO w' w1.heap.size u na R MA ∧ Below w1.heap.size w1 w'))
    have hY2 := Lib.hid (fun w1 (h : Below w.heap.size w w1) => (hY.out w1 h).mono fun e w' ⟨u, R, e1, e2, e3⟩ => (⟨u, R, e1, e2.1.ext fun i hi => by rw [← hMBe, rowL_lt hi], e3⟩ : ∃ u R, e = Ending.returned u ∧ RwO w' w1.heap.size u nb R MB ∧ Below w1.heap.size w1 w'))
    rw [hMAe] at hMA hMS
    rw [hMBe] at hMB hMS
    rw [hMAe, hMBe, hL]
    have hadd := Lib.hid (fun i va vb w (h1 : IsRow w va (MA i)) (h2 : IsRow w vb (MB i)) => combine_any va vb (MA i) (MB i) p 1 w hp h1 h2 (hMA.out i).po.md (hMB.out i).po.md (by decide) (by decide) (by have := (hMA.out i).le; omega) (by have := (hMB.out i).le; omega))
    have hLe := Lib.hid hL
    have hL7 : L ≤ 7 := by omega
    have hTA := Lib.hid (fun u k R w (h : RwC w u k R (sumL p MA MB)) (hk : k ≤ L) => toldAll_any u k R (sumL p MA MB) w (by omega) h (fun q _ i => by have := (hMS.out q).rng i; omega) true ⟨fun _ => rfl, fun _ q _ => (hMS.out q).le⟩)
    clear ha hb hF hG hbb hc hbc hMAe hMBe hX hY hL hAF hAG hp
    have hsel : (na < nb ∧ nb = L) ∨ (¬ na < nb ∧ na = L) := by have := hLe.out; omega
    rcases hsel with ⟨hsl, hse⟩ | ⟨hsl, hse⟩
    all_goals
      have hseH := Lib.hid (congrArg (fun n : Nat => (n : Int)) hse)
      clear hse
      go_enter Try.func23, Try.ntmps23
      go_wp2_with fail
      refine H1.out.mono ?_
      rintro e w1 ⟨rfl, hb1⟩
      have hg : (lcode true true != 0) = false := rfl
      go_wp2_with fail
      refine (hX2.out _ hb1).mono ?_
      rintro e w2 ⟨u1, R1, rfl, hx, hn⟩
      obtain ⟨o1, c1, rfl, _⟩ := hx.at
      have hb2 := below_step hb1 hn
      have hxH := Lib.hid hx
      clear hx hn hb1
      go_wp2_with fail
      refine (hY2.out _ hb2).mono ?_
      rintro e w3 ⟨u2, R2, rfl, hy, hn⟩
      obtain ⟨o2, c2, rfl, _⟩ := hy.at
      have hx3 := Lib.hid (hxH.out.below hn)
      have hy3 := Lib.hid hy
      have hb3 := below_step hb2 hn
      clear hxH hy hn hb2 hX2 hY2
      have hN := Blk.new w3 (arr L fun _ => Value.slice none 0 0) 48
      have hn0 := below_new w3 (.cells (arr L fun _ => Value.slice none 0 0) 48)
      go_wp2_with (refine wpl_make_any rfl 57 48 _ _ rfl (.slice none 0 0) 24 (by decide) uRowsT iRowT1 rfl .i64 .i64 _ _ L rfl rfl hseH.out hseH.out (by omega) ?_)
      have hgN : w3.heap.size < w3.heap.size + 1 := by omega
      go_loopw [32] (fun i wr => ∃ (k : Nat) (NN : Nat → Value), k ≤ L ∧ i = .int .i64 (k : Int) ∧ Blk wr w3.heap.size (arr L NN) 48 ∧ (∀ q, ∃ a m c, NN q = .slice a m c) ∧ Hid (∀ q, q < k → IsRow wr (NN q) (sumL p MA MB q)) ∧ Below w3.heap.size w3 wr) (fun i _ => L - (intOf i).toNat)
      case atStart => exact ⟨0, _, by omega, rfl, hN, fun q => ⟨none, 0, 0, rfl⟩, Lib.hid fun q hq => absurd hq (by omega), hn0⟩
      case round =>
        clear hN hn0
        obtain ⟨k, NN, hk, rfl, hN, hNs, hR, hn⟩ := hrel
        by_cases hlt : k < L
        · go_wp2_with fail
          refine (place_any _ na _ R1 MA _ (hx3.out.below hn) (by omega) k (by omega) hAz.out).mono ?_
          rintro e y1 ⟨r1, rfl, hr1, rfl⟩
          have hr1H := Lib.hid hr1
          clear hr1
          go_wp2_with fail
          refine (place_any _ nb _ R2 MB _ (hy3.out.below hn) (by omega) k (by omega) hBz.out).mono ?_
          rintro e y2 ⟨r2, rfl, hr2, rfl⟩
          have hr2H := Lib.hid hr2
          clear hr2
          go_wp2_with fail
          refine (hadd.out k r1 r2 _ hr1H.out hr2H.out).mono ?_
          rintro e y3 ⟨r3, rfl, hr3, hn3⟩
          have hR3 := Lib.hid (fun q (hq : q < k) => (hR.out q hq).below hn3)
          have hN3 := hN.keep hn3
          have hn4 := below_step hn hn3
          have hr3H := Lib.hid (show IsRow y3 r3 (sumL p MA MB k) from hr3)
          have hsl := hr3.isSlice
          clear hr3 hR hN hn hn3 hr1H hr2H
          go_wp2_with ((with_reducible refine wpl_guard ?_); first | (refine wpl_store_arrN rfl 48 _ _ rfl w3.heap.size k rfl r3 rfl L NN _ hN3 hlt sRowT1 (slice_one hsl) ?_))
          have hN5 := hN3.setRow_same (cs := arr L (fun j => if j = k then r3 else NN j))
          have hn5 := below_setRow hn4 (g := w3.heap.size) (Nat.le_refl _) (arr L (fun j => if j = k then r3 else NN j))
          have hR5 := Lib.hid (fun q (hq : q < k) => (hR3.out q hq).setB hN3 (fun q _ => hNs q) (arr L (fun j => if j = k then r3 else NN j)))
          have hr5 := Lib.hid (hr3H.out.setB hN3 (fun q _ => hNs q) (arr L (fun j => if j = k then r3 else NN j)))
          clear hN3 hn4 hR3 hr3H
          go_wp2_with fail
          go_roundw
          case rel =>
            refine ⟨k + 1, _, by omega, by go_num, hN5, fun q => ?_, Lib.hid fun q hq => ?_, hn5⟩
            · by_cases e : q = k
              · simp only [if_pos e]; exact hsl
              · simp only [if_neg e]; exact hNs q
            · by_cases e : q = k
              · subst e; simp only [if_true]; exact hr5.out
              · simp only [if_neg e]; exact hR5.out q (by omega)
          case measure => simp [intOf] <;> omega
        · obtain rfl : k = L := by omega
          have hRB : RwB wr w3.heap.size 48 (.slice (some ⟨w3.heap.size, 0, none⟩) k k) k NN (sumL p MA MB) := ⟨⟨_, rfl, fun _ => ⟨_, rfl, Nat.le_refl _, hN⟩⟩, hR.out⟩
          have hW := Lib.hid (withoutZeros_any _ k NN (sumL p MA MB) _ _ wr hRB (by omega))
          have hb4 := hb3.trans (hn.mono hb3.size)
          clear hRB hR hN hn hb3
          go_wp2_with fail
          refine hW.out.mono ?_
          rintro e y1 ⟨u, rfl, hu, rfl⟩
          have hTAu := Lib.hid (hTA.out u _ NN _ hu (tlen_le _ _))
          obtain ⟨⟨oU, cU, rfl, _⟩, _⟩ := hu
          go_wp2_with fail
          refine hTAu.out.mono ?_
          rintro e y2 ⟨v, rfl, hv, hn⟩
          have hvH := Lib.hid (owns_mono' hv hb4.size)
          have hb5 := below_step hb4 hn
          clear hv hn hb4
          go_wp2_with fail
          go_ret2
          exact ⟨_, rfl, hvH.out, hb5⟩
  · have hz : (if (b && c) = true then tlen (sumL p (rowL na F) (rowL nb G)) (max na nb) else 0) = 0 := if_neg hbc
    rw [hz]
    have hg : (lcode b c != 0) = true := by cases b <;> cases c <;> simp_all [lcode]
    clear ha hb hF hG hbb hc hbc hX hY hz
    go_enter Try.func23, Try.ntmps23
    go_wp2_with fail
    refine H1.out.mono ?_
    rintro e w1 ⟨rfl, hb1⟩
    go_wp2_with fail
    go_ret2
    exact ⟨_, rfl, World.ownsRow_nil _ _ _ _, hb1⟩
end Go.Proofs.Ytionaenmjndncab
