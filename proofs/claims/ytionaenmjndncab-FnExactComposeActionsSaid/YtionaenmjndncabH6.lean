/- Walks: the program's ComposeActions. -/
import Derived.Test.YtionaenmjndncabH5
set_option linter.unusedVariables false
set_option linter.unusedSimpArgs false
namespace Go.Proofs.Ytionaenmjndncab
open Go.RowKit
theorem below_grown {w w' : World} (h : Below w.heap.size w w') (row : Option Nat) : w.grownBy w' row := ⟨h.os, h.tape, h.output, h.size, fun k hk _ => h.block k hk⟩
theorem setRow_grown (w : World) (g : Nat) (cs : Array Value) : w.grownBy (w.setRow g cs) (some g) := ⟨rfl, rfl, rfl, by simp, fun k _ hk => setRow_other w g k cs (fun e => hk (by rw [e]))⟩
theorem RowT.ne {w : World} {r : Value} {g : Nat} {cs : Array Value} (h : RowT w r) (hb : Blk w g cs 48) : ∀ k, r.ownBlock = some k → some k ≠ some g := fun k hk e => by
  obtain ⟨cur, fz, he⟩ := h k hk
  injection e with e
  subst e
  unfold Blk at hb
  rw [he] at hb
  injection hb with hb; injection hb with _ h2
  exact absurd h2 (by decide)
theorem RwT.kept {w w' : World} {B n g : Nat} {v : Value} {R : Nat → Value} {M : Nat → List Int} {cs : Array Value} (h : RwT w B v n R M) (hg : w.grownBy w' (some g)) (hB : g < B) (hb : Blk w g cs 48) : RwT w' B v n R M :=
  ⟨⟨World.ownsRow.kept h.1.1 hg (.inr fun e => by have := (h.1.1.lt g e).1; omega), fun i hi => IsRow.grown (v := .slice (some ⟨g, 0, none⟩) 0 0) (h.1.2 i hi) hg ((h.2 i hi).ne hb)⟩, fun i hi => RowT.grown (v := .slice (some ⟨g, 0, none⟩) 0 0) (h.2 i hi) hg ((h.2 i hi).ne hb)⟩
theorem RwT.ext {w : World} {B n : Nat} {v : Value} {R : Nat → Value} {M M' : Nat → List Int} (h : RwT w B v n R M) (e : ∀ i, i < n → M i = M' i) : RwT w B v n R M' := ⟨h.1.ext e, h.2⟩
set_option maxRecDepth 20000 in
set_option maxHeartbeats 4000000 in
theorem implComposeActions_any (ga gb na nb ca cb BA BB : Nat) (F G : Nat → Int) (p : Int) (P : Nat) (w : World) (hF : By F) (hG : By G) (ha : Fl w BA (.slice (some ⟨ga, 0, none⟩) na ca) na F) (hb : Fl w BB (.slice (some ⟨gb, 0, none⟩) nb cb) nb G) (hna : na ≤ 10000000) (hnb : nb ≤ 10000000)
    (hP : Pr p → p = P) (b c t : Bool) (hbb : GoodL p na nb F G ↔ b = true) (hc : decide (na ≤ 7 ∧ nb ≤ 7) = c) (ht : CFit P (rowL na F) (rowL nb G) na nb ↔ t = true) :
    Calls Try.prog 25 #[.int .i64 p, .slice (some ⟨ga, 0, none⟩) na ca, .slice (some ⟨gb, 0, none⟩) nb cb] w fun e w' => ∃ v, e = .returned (.tuple #[v, .int .i64 (ccode b c t)]) ∧ PlS w' w.heap.size v (cmN p P na nb F G b c t) (cpO p P (rowL na F) (rowL nb G) nb na) ∧ Below w.heap.size w w' := by
  have H1 := Lib.hid (listsCode_any ga gb na nb ca cb BA BB F G p w hF hG ha hb hna hnb b c hbb hc)
  unfold cmN
  by_cases hbc : (b && c) = true
  · have hbT : b = true := by cases b <;> simp_all
    have hcT : c = true := by cases c <;> simp_all
    subst hbT hcT
    have h7 := of_decide_eq_true hc
    by_cases hz : na = 0 ∨ nb = 0
    · obtain rfl : true = t := (ht.1 fun i hi k hk => by omega).symm
      rw [cm_void hz]
      have hz1 : (if (true && true && true) = true then 0 else 0) = 0 := rfl
      rw [hz1]
      have hg : (lcode true true != 0) = false := rfl
      clear ha hb hF hG hbb hc hbc ht hP hz1
      by_cases hn0 : na = 0
      · subst hn0
        clear hz
        go_enter Try.func25, Try.ntmps25
        go_wp2_with fail
        refine H1.out.mono ?_
        rintro e w1 ⟨rfl, hb1⟩
        go_wp2_with fail
        go_ret2
        exact ⟨_, rfl, World.ownsRow_nil _ _ _ _, hb1⟩
      · obtain rfl : nb = 0 := by omega
        have hn1 : ((na : Int) == 0) = false := by rw [beq_eq_false_iff_ne]; omega
        clear hz hn0
        go_enter Try.func25, Try.ntmps25
        go_wp2_with fail
        refine H1.out.mono ?_
        rintro e w1 ⟨rfl, hb1⟩
        go_wp2_with fail
        go_ret2
        exact ⟨_, rfl, World.ownsRow_nil _ _ _ _, hb1⟩
    · obtain ⟨hp, hAF, hAG⟩ := hbb.2 rfl
      have hp2 := hp.pos
      have hPe := hP hp
      have hX := Lib.hid (fun w1 (h : Below w.heap.size w w1) => rows_any _ na BA F w1 hF (ha.below h) hna)
      have hY := Lib.hid (fun w1 (h : Below w.heap.size w w1) => rows_any _ nb BB G w1 hG (hb.below h) hnb)
      have hMA := Lib.hid (rowL_P64 hp hF hAF)
      have hMB := Lib.hid (rowL_P64 hp hG hAG)
      obtain ⟨MA, hMAe⟩ : ∃ M, rowL na F = M := ⟨_, rfl⟩
      obtain ⟨MB, hMBe⟩ : ∃ M, rowL nb G = M := ⟨_, rfl⟩
      have hX2 := Lib.hid (fun w1 (h : Below w.heap.size w w1) => (hX.out w1 h).mono fun e w' ⟨u, R, e1, e2, e3⟩ => (⟨u, R, e1, e2.ext fun i hi => by rw [← hMAe, rowL_lt hi], e3⟩ : ∃ u R, e = Ending.returned u ∧ RwT w' w1.heap.size u na R MA ∧ Below w1.heap.size w1 w'))
      have hY2 := Lib.hid (fun w1 (h : Below w.heap.size w w1) => (hY.out w1 h).mono fun e w' ⟨u, R, e1, e2, e3⟩ => (⟨u, R, e1, e2.ext fun i hi => by rw [← hMBe, rowL_lt hi], e3⟩ : ∃ u R, e = Ending.returned u ∧ RwT w' w1.heap.size u nb R MB ∧ Below w1.heap.size w1 w'))
      rw [hMAe] at hMA ht
      rw [hMBe] at hMB ht
      rw [hMAe, hMBe, cm_len (by omega) (by omega)]
      obtain ⟨L, hL⟩ : ∃ L, na + nb - 1 = L := ⟨_, rfl⟩
      rw [hL]
      have hPP : 2 ≤ P := by omega
      have hOP := Lib.hid (fun i (h : ∀ i', i' < i → ∀ k, k < nb → CFit1 P MA MB i' k) => cpO_P64 hp hPP hMA.out hMB.out i h)
      have hIP := Lib.hid (fun i k (h : ∀ j, P64 p (cpO p P MA MB nb i j)) (h2 : ∀ k', k' < k → CFit1 P MA MB i k') => cpI_P64 hPP hMA.out hMB.out h k h2)
      have hTA := Lib.hid (fun u n R w (h : RwC w u n R (cpO p P MA MB nb na)) (hn : n ≤ L) (hS : ∀ j, P64 p (cpO p P MA MB nb na j)) => toldAll_any u n R (cpO p P MA MB nb na) w (by omega) h (fun q _ i => by have := (hS q).rng i; omega) true ⟨fun _ => rfl, fun _ q _ => (hS q).le⟩)
      have hpH := Lib.hid hp
      have hPH := Lib.hid hPe
      have htH := Lib.hid ht
      have hna7 : na ≤ 7 := h7.1
      have hnb7 : nb ≤ 7 := h7.2
      have hL1 : ((na : Int) + (nb : Int) - 1) = (L : Int) := by omega
      have hLle : L ≤ 13 := by omega
      have hLik : ∀ i k, i < na → k < nb → i + k < L := fun i k h1 h2 => by omega
      have hLikH := Lib.hid hLik
      have hna0 : ((na : Int) == 0) = false := by rw [beq_eq_false_iff_ne]; omega
      have hnb0 : ((nb : Int) == 0) = false := by rw [beq_eq_false_iff_ne]; omega
      clear ha hb hF hG hbb hc hbc ht hP hX hY hMAe hMBe hp hAF hAG hPe h7 hz hL hLik hna hnb
      go_enter Try.func25, Try.ntmps25
      go_wp2_with fail
      refine H1.out.mono ?_
      rintro e wz1 ⟨rfl, hb1⟩
      have hg : (lcode true true != 0) = false := rfl
      have hgw := hb1.size
      have hN0 := Blk.new wz1 (arr L fun _ => Value.slice none 0 0) 48
      have hb2 := below_step hb1 (below_new wz1 (.cells (arr L fun _ => Value.slice none 0 0) 48))
      clear hb1
      go_wp2_with (refine wpl_make_any rfl 57 48 _ _ rfl (.slice none 0 0) 24 (by decide) uRowsT iRowT1 rfl .i64 .i64 _ _ L rfl rfl rfl rfl (by omega) ?_)
      refine (hX2.out _ hb2).mono ?_
      rintro e w3 ⟨x, R1, rfl, hx, hn⟩
      have hN1 := hN0.keep hn
      have hb3 := below_step hb2 hn
      have hxk := Lib.hid (fun wq (h : w3.grownBy wq (some wz1.heap.size)) => hx.kept h (by simp) hN1)
      obtain ⟨oX, cX, rfl, hxc⟩ := hx.1.at
      obtain ⟨gX, rfl, _, _⟩ := hxc (by have := beq_eq_false_iff_ne.1 hna0; omega)
      clear hN0 hn hb2 hX2 hx hxc
      go_wp2_with fail
      go_loopw [41] (fun iv wo => ∃ (ix : Nat) (NN : Nat → Value), ix ≤ na ∧ iv = .int .i64 (ix : Int) ∧ Blk wo wz1.heap.size (arr L NN) 48 ∧ (∀ q, ∃ a m c, NN q = .slice a m c) ∧ Hid (∀ z, z < L → IsRow wo (NN z) (cpO p P MA MB nb ix z)) ∧ w3.grownBy wo (some wz1.heap.size) ∧ Below w.heap.size w wo ∧ Hid (∀ ix', ix' < ix → ∀ k, k < nb → CFit1 P MA MB ix' k)) (fun iv _ => na - (intOf iv).toNat)
      case atStart => exact ⟨0, _, by omega, rfl, hN1, fun q => ⟨none, 0, 0, rfl⟩, Lib.hid fun z _ => IsRow_nil _, World.grownBy.refl _ _, hb3, Lib.hid fun ix' h => absurd h (by omega)⟩
      case round =>
        clear hN1 hb3
        rename World => wo
        obtain ⟨ix, NN, hi, rfl, hN, hNs, hR, hG3, hb, hfO⟩ := hrel
        by_cases hlt : ix < na
        · have hx := hxk.out _ hG3
          have c0 : wo.cell? ⟨gX, ix, none⟩ = some (R1 ix) := by
            obtain ⟨o', c', e1, e2⟩ := hx.1.at
            obtain ⟨g', e3, _, e4⟩ := e2 (by omega)
            injection e1 with e1
            rw [e3] at e1
            injection e1 with e1
            injection e1 with e1
            subst e1
            exact e4 ix hlt
          obtain ⟨o1, c1, hsl1, _⟩ := hx.1.2 ix hlt
          have hcr := Lib.hid (fun wq (h : w3.grownBy wq (some wz1.heap.size)) => (by rw [← hsl1]; exact (hxk.out _ h).1.2 ix hlt : IsRow wq (.slice o1 (MA ix).length c1) (MA ix)))
          rw [hsl1] at c0
          clear hx hsl1
          obtain ⟨la, hla⟩ : ∃ la, (MA ix).length = la := ⟨_, rfl⟩
          rw [hla] at c0 hcr
          obtain ⟨q, hq⟩ : ∃ q, P ^ ix = q := ⟨_, rfl⟩
          have hqb := q_bounds hpH.out hPH.out hq.symm (by omega)
          have hPO := Lib.hid (hOP.out ix hfO.out)
          have hnorm := Lib.hid (fun w => by have := norm_any p 1099511627776 ix w hp2.1 (by rw [← hqb.2.2]; omega) (by omega) (by omega); rw [← hqb.2.2] at this; exact this)
          have hspr := Lib.hid (fun k v w (h : IsRow w v (MB k)) => spread_any v (MB k) p P ix q w hpH.out hPH.out hq.symm (by omega) h (hMB.out k).le)
          have hq0 : 0 < q := by omega
          have hlaH := Lib.hid hla
          have hla64 : la ≤ 64 := hla ▸ (hMA.out ix).le
          have hq2 : q ≤ 117649 := hqb.2.1
          have hqH := Lib.hid hq
          have htim := Lib.hid (fun k (hf : MA ix ≠ [] ∧ MB k ≠ [] ∧ (MA ix).length - 1 + ((MB k).length - 1) * q ≤ 63) va vb w (h1 : IsRow w va (MA ix)) (h2 : IsRow w vb (sprd (MB k) q)) => times_any va vb (MA ix) (sprd (MB k) q) p w hpH.out h1 h2 (hMA.out ix).po.md (sprd_Po (by omega) (hMB.out k).po hq0).md (by have := (hMA.out ix).le; omega) (by have := (prod_P64 (P := P) hPP hq0 (hMA.out ix) (hMB.out k) hf.1 hf.2.1 hf.2.2).2; omega))
          have hbo := hb
          clear hqb hla hq
          go_wp2_with fail
          refine (hY2.out _ hb).mono ?_
          rintro e w5 ⟨y, R2, rfl, hy, hn⟩
          have hN5 := hN.keep hn
          have hR5 := Lib.hid (fun z (hz : z < L) => (hR.out z hz).below hn)
          have hG35 := grown_trans hG3 (below_grown hn (some wz1.heap.size))
          have hb5 := below_step hb hn
          have hgo : wz1.heap.size < wo.heap.size := hN.lt
          have hyk := Lib.hid (fun wq (h : w5.grownBy wq (some wz1.heap.size)) => hy.kept h hgo hN5)
          obtain ⟨oY, cY, rfl, hyc⟩ := hy.1.at
          obtain ⟨gY, rfl, _, _⟩ := hyc (by have := beq_eq_false_iff_ne.1 hnb0; omega)
          clear hN hn hR hb hy hyc hG3 hbo hgo
          go_wp2_with fail
          go_loopw [49] (fun kv wq => ∃ (k : Nat) (NN : Nat → Value), k ≤ nb ∧ kv = .int .i64 (k : Int) ∧ Blk wq wz1.heap.size (arr L NN) 48 ∧ (∀ q, ∃ a m c, NN q = .slice a m c) ∧ Hid (∀ z, z < L → IsRow wq (NN z) (cpI p P (MA ix) MB ix k (cpO p P MA MB nb ix) z)) ∧ w3.grownBy wq (some wz1.heap.size) ∧ w5.grownBy wq (some wz1.heap.size) ∧ Below w.heap.size w wq ∧ Hid (∀ k', k' < k → CFit1 P MA MB ix k')) (fun kv _ => nb - (intOf kv).toNat)
          case atStart => exact ⟨0, NN, by omega, rfl, hN5, hNs, hR5, hG35, World.grownBy.refl _ _, hb5, Lib.hid fun k' h => absurd h (by omega)⟩
          case round =>
            clear hN5 hR5 hG35 hb5 hNs
            rename World => wq
            obtain ⟨k, NN, hk, rfl, hN, hNs, hR, hG3, hG5, hb, hfI⟩ := hrel
            by_cases hlt2 : k < nb
            · have hy := hyk.out _ hG5
              have cd1 : wq.cell? ⟨gY, k, none⟩ = some (R2 k) := by
                obtain ⟨o', c', e1, e2⟩ := hy.1.at
                obtain ⟨g', e3, _, e4⟩ := e2 (by omega)
                injection e1 with e1
                rw [e3] at e1
                injection e1 with e1
                injection e1 with e1
                subst e1
                exact e4 k hlt2
              obtain ⟨o2, c2, hsl2, _⟩ := hy.1.2 k hlt2
              have hdx := Lib.hid (by rw [← hsl2]; exact hy.1.2 k hlt2 : IsRow wq (.slice o2 (MB k).length c2) (MB k))
              have hcx := Lib.hid (hcr.out _ hG3)
              rw [hsl2] at cd1
              clear hy hsl2
              obtain ⟨lb, hlb⟩ : ∃ lb, (MB k).length = lb := ⟨_, rfl⟩
              rw [hlb] at cd1 hdx
              have hlb64 : lb ≤ 64 := hlb ▸ (hMB.out k).le
              have hlbH := Lib.hid hlb
              clear hlb
              by_cases hla0 : la = 0
              · subst hla0
                have hsk := Lib.hid ((Or.inl (List.length_eq_zero_iff.1 hlaH.out) : MA ix = [] ∨ MB k = []))
                go_wp2_with fail
                go_roundw
                case rel =>
                  refine ⟨k + 1, NN, by omega, by go_num, hN, hNs, Lib.hid fun z hz => ?_, hG3, hG5, hb, Lib.hid fun k' hk' => ?_⟩
                  · rw [cpI_skip hsk.out]; exact hR.out z hz
                  · by_cases e : k' = k
                    · subst e; exact fun h1 h2 => by rcases hsk.out with h | h; exact absurd h h1; exact absurd h h2
                    · exact hfI.out k' (by omega)
                case measure => simp [intOf] <;> omega
              · have hla1 : ((la : Int) == 0) = false := by rw [beq_eq_false_iff_ne]; omega
                by_cases hlb0 : lb = 0
                · subst hlb0
                  have hsk := Lib.hid ((Or.inr (List.length_eq_zero_iff.1 hlbH.out) : MA ix = [] ∨ MB k = []))
                  go_wp2_with fail
                  go_roundw
                  case rel =>
                    refine ⟨k + 1, NN, by omega, by go_num, hN, hNs, Lib.hid fun z hz => ?_, hG3, hG5, hb, Lib.hid fun k' hk' => ?_⟩
                    · rw [cpI_skip hsk.out]; exact hR.out z hz
                    · by_cases e : k' = k
                      · subst e; exact fun h1 h2 => by rcases hsk.out with h | h; exact absurd h h1; exact absurd h h2
                      · exact hfI.out k' (by omega)
                  case measure => simp [intOf] <;> omega
                · have hlb1 : ((lb : Int) == 0) = false := by rw [beq_eq_false_iff_ne]; omega
                  have hAn : MA ix ≠ [] := fun e => by have := hlaH.out; rw [e] at this; exact hla0 this.symm
                  have hBn : MB k ≠ [] := fun e => by have := hlbH.out; rw [e] at this; exact hlb0 this.symm
                  have hAnH := Lib.hid hAn
                  have hBnH := Lib.hid hBn
                  clear hAn hBn
                  have hikL := hLikH.out ix k hlt hlt2
                  have hdc := Lib.hid (by have := degree_any _ (MA ix) wq hcx.out; rw [hlaH.out] at this; exact this)
                  have hdd := Lib.hid (by have := degree_any _ (MB k) wq hdx.out; rw [hlbH.out] at this; exact this)
                  obtain ⟨e, he⟩ : ∃ e, (lb - 1) * q = e := ⟨_, rfl⟩
                  have hmul : ((lb : Int) - 1) * (q : Int) = (e : Int) := by rw [← he, Int.natCast_mul, Int.natCast_sub (by omega)]; rfl
                  have he2 : e ≤ 64 * 117649 := he ▸ Nat.mul_le_mul (by omega) hq2
                  have hm1 : ((lb : Int) - 1) * (q : Int) ≤ 7529536 := by rw [hmul]; omega
                  have hm2 : 0 ≤ ((lb : Int) - 1) * (q : Int) := by rw [hmul]; omega
                  have heH := Lib.hid he
                  clear he
                  by_cases hf : la - 1 + e ≤ 63
                  · have hfit : MA ix ≠ [] ∧ MB k ≠ [] ∧ (MA ix).length - 1 + ((MB k).length - 1) * q ≤ 63 := ⟨hAnH.out, hBnH.out, by rw [hlaH.out, hlbH.out, heH.out]; exact hf⟩
                    have hfc := Lib.hid (show CFit1 P MA MB ix k from fun _ _ => by rw [hlaH.out, hlbH.out, hqH.out, heH.out]; exact hf)
                    have hstep := Lib.hid (cpI_step (p := p) (P := P) (i := ix) (M := cpO p P MA MB nb ix) hAnH.out hBnH.out)
                    have hPK := hIP.out ix k hPO.out hfI.out
                    have hPX := (prod_P64 (P := P) hPP hq0 (hMA.out ix) (hMB.out k) hfit.1 hfit.2.1 hfit.2.2).1
                    rw [hqH.out] at hstep
                    obtain ⟨MK, hMK⟩ : ∃ M, cpI p P (MA ix) MB ix k (cpO p P MA MB nb ix) = M := ⟨_, rfl⟩
                    rw [hMK] at hstep hPK hR
                    have hcom := Lib.hid (fun va vb w (h1 : IsRow w va (MK (ix + k))) (h2 : IsRow w vb (mulp p (MA ix) (sprd (MB k) q))) => combine_any va vb _ _ p 1 w hpH.out h1 h2 (hPK (ix + k)).po.md hPX.po.md (by decide) (by decide) (by have := (hPK (ix + k)).le; omega) (by have := hPX.le; omega))
                    clear hMK hPK hPX
                    have hgt : ¬ ((la : Int) - 1 + (e : Int) > 63) := by omega
                    have hgt2 : (la : Int) - 1 + (e : Int) ≤ 63 := by omega
                    go_wp2_with fail
                    refine hdc.out.mono ?_
                    rintro e1 y1 ⟨rfl, rfl⟩
                    go_wp2_with fail
                    refine hdd.out.mono ?_
                    rintro e1 y1 ⟨rfl, rfl⟩
                    go_wp2_with fail
                    refine (hnorm.out _).mono ?_
                    rintro e1 y1 ⟨rfl, rfl⟩
                    go_wp2_with fail
                    go_upto_region 17 with (fail)
                    refine gen_last (w := _) (by kernel_rfl) (by kernel_rfl) (by kernel_rfl) 20 (by kernel_rfl)
                        (fun i => ([fun zv _ => zv = .slice (some ⟨wz1.heap.size, 0, none⟩) (L) (L), fun zv _ => zv = .int .i64 ((ix : Nat) : Int), fun zv _ => zv = .int .i64 ((k : Nat) : Int), fun zv _ => zv = .int .i64 ((ix + k : Nat) : Int), fun zv _ => zv = .int .i64 p, fun zv _ => zv = .slice (some ⟨wz1.heap.size, 0, none⟩) (L) (L), fun zv _ => zv = .int .i64 ((ix : Nat) : Int), fun zv _ => zv = .int .i64 ((k : Nat) : Int), fun zv _ => zv = .int .i64 ((ix + k : Nat) : Int), fun zv _ => zv = .pointer (some ⟨wz1.heap.size, ix + k, none⟩), fun zv _ => zv = (NN (ix + k)), fun zv _ => zv = .int .i64 p, fun v w => IsRow w v (MA ix), fun zv _ => zv = .int .i64 p, fun v w => IsRow w v (MB k), fun zv _ => zv = .int .i64 ((ix : Nat) : Int), fun v w => IsRow w v (sprd (MB k) q), fun v w => IsRow w v (mulp p (MA ix) (sprd (MB k) q)), fun v w => IsRow w v (addp p (MK (ix + k)) (mulp p (MA ix) (sprd (MB k) q)) 1), fun zv _ => zv = .pointer (some ⟨wz1.heap.size, ix + k, none⟩), fun _ _ => True] : List (Value → World → Prop)).getD i (fun _ _ => True))
                        (fun w' => True) trivial (fun w1 w2 h hb => trivial) ?_ ?_ ?_
                    · intro i v w1 w2 h hb
                      rcases i with _|_|_|_|_|_|_|_|_|_|_|_|_|_|_|_|_|_|_|_|_|i
                      · exact h
                      · exact h
                      · exact h
                      · exact h
                      · exact h
                      · exact h
                      · exact h
                      · exact h
                      · exact h
                      · exact h
                      · exact h
                      · exact h
                      · exact (show IsRow w1 v (MA ix) from h).below hb
                      · exact h
                      · exact (show IsRow w1 v (MB k) from h).below hb
                      · exact h
                      · exact (show IsRow w1 v (sprd (MB k) q) from h).below hb
                      · exact (show IsRow w1 v (mulp p (MA ix) (sprd (MB k) q)) from h).below hb
                      · exact (show IsRow w1 v (addp p (MK (ix + k)) (mulp p (MA ix) (sprd (MB k) q)) 1) from h).below hb
                      · exact h
                      · exact h
                      · exact h
                    · intro i o ho hiZ a w2 hBl hSx hrd hpar
                      rcases i with _|_|_|_|_|_|_|_|_|_|_|_|_|_|_|_|_|_|_|_|_|i
                      · obtain rfl := Option.some.inj ho
                        refine .inl ⟨rfl, ?_⟩
                        have e10 : a.eval (.tmp 10) = .slice (some ⟨wz1.heap.size, 0, none⟩) (L) (L) := hpar 10 _ (by kernel_rfl) (by kernel_rfl)
                        exact wpv_of (wp_move _ _ rfl e10) (fun _ _ => rfl)
                      · obtain rfl := Option.some.inj ho
                        refine .inl ⟨rfl, ?_⟩
                        have e11 : a.eval (.tmp 11) = .int .i64 ((ix : Nat) : Int) := hpar 11 _ (by kernel_rfl) (by kernel_rfl)
                        exact wpv_of (wp_move _ _ rfl e11) (fun _ _ => rfl)
                      · obtain rfl := Option.some.inj ho
                        refine .inl ⟨rfl, ?_⟩
                        have e13 : a.eval (.tmp 13) = .int .i64 ((k : Nat) : Int) := hpar 13 _ (by kernel_rfl) (by kernel_rfl)
                        exact wpv_of (wp_move _ _ rfl e13) (fun _ _ => rfl)
                      · obtain rfl := Option.some.inj ho
                        refine .inl ⟨rfl, ?_⟩
                        have e73 : a.eval (.tmp 73) = .int .i64 ((ix : Nat) : Int) := hrd 1 _ 73 rfl rfl (by kernel_rfl) (by kernel_rfl)
                        have e74 : a.eval (.tmp 74) = .int .i64 ((k : Nat) : Int) := hrd 2 _ 74 rfl rfl (by kernel_rfl) (by kernel_rfl)
                        exact wpv_of (wp_addN _ _ _ _ rfl ix k e73 e74 (by omega) (by omega)) (fun _ _ => rfl)
                      · obtain rfl := Option.some.inj ho
                        refine .inl ⟨rfl, ?_⟩
                        have e9 : a.eval (.tmp 9) = .int .i64 p := hpar 9 _ (by kernel_rfl) (by kernel_rfl)
                        exact wpv_of (wp_move _ _ rfl e9) (fun _ _ => rfl)
                      · obtain rfl := Option.some.inj ho
                        refine .inl ⟨rfl, ?_⟩
                        have e10 : a.eval (.tmp 10) = .slice (some ⟨wz1.heap.size, 0, none⟩) (L) (L) := hpar 10 _ (by kernel_rfl) (by kernel_rfl)
                        exact wpv_of (wp_move _ _ rfl e10) (fun _ _ => rfl)
                      · obtain rfl := Option.some.inj ho
                        refine .inl ⟨rfl, ?_⟩
                        have e11 : a.eval (.tmp 11) = .int .i64 ((ix : Nat) : Int) := hpar 11 _ (by kernel_rfl) (by kernel_rfl)
                        exact wpv_of (wp_move _ _ rfl e11) (fun _ _ => rfl)
                      · obtain rfl := Option.some.inj ho
                        refine .inl ⟨rfl, ?_⟩
                        have e13 : a.eval (.tmp 13) = .int .i64 ((k : Nat) : Int) := hpar 13 _ (by kernel_rfl) (by kernel_rfl)
                        exact wpv_of (wp_move _ _ rfl e13) (fun _ _ => rfl)
                      · obtain rfl := Option.some.inj ho
                        refine .inl ⟨rfl, ?_⟩
                        have e78 : a.eval (.tmp 78) = .int .i64 ((ix : Nat) : Int) := hrd 6 _ 78 rfl rfl (by kernel_rfl) (by kernel_rfl)
                        have e79 : a.eval (.tmp 79) = .int .i64 ((k : Nat) : Int) := hrd 7 _ 79 rfl rfl (by kernel_rfl) (by kernel_rfl)
                        exact wpv_of (wp_addN _ _ _ _ rfl ix k e78 e79 (by omega) (by omega)) (fun _ _ => rfl)
                      · obtain rfl := Option.some.inj ho
                        refine .inl ⟨rfl, ?_⟩
                        have e77 : a.eval (.tmp 77) = .slice (some ⟨wz1.heap.size, 0, none⟩) (L) (L) := hrd 5 _ 77 rfl rfl (by kernel_rfl) (by kernel_rfl)
                        have e80 : a.eval (.tmp 80) = .int .i64 ((ix + k : Nat) : Int) := hrd 8 _ 80 rfl rfl (by kernel_rfl) (by kernel_rfl)
                        exact wpv_of (wp_index_row1 57 48 _ _ rfl uRowsT sRowT1 (wz1.heap.size) (L) (L) (ix + k) .i64 e77 e80 hikL) (fun _ _ => rfl)
                      · obtain rfl := Option.some.inj ho
                        refine .inl ⟨rfl, ?_⟩
                        have e81 : a.eval (.tmp 81) = .pointer (some ⟨wz1.heap.size, ix + k, none⟩) := hrd 9 _ 81 rfl rfl (by kernel_rfl) (by kernel_rfl)
                        exact wpv_of (wp_load_slice 48 2 _ rfl _ e81 uRowT1 _ (by rw [(hN.keep hBl).cell]; exact arr_get_lt NN (show ix + k < L from hikL))) (fun _ _ => rfl)
                      · obtain rfl := Option.some.inj ho
                        refine .inl ⟨rfl, ?_⟩
                        have e9 : a.eval (.tmp 9) = .int .i64 p := hpar 9 _ (by kernel_rfl) (by kernel_rfl)
                        exact wpv_of (wp_move _ _ rfl e9) (fun _ _ => rfl)
                      · obtain rfl := Option.some.inj ho
                        refine .inl ⟨rfl, ?_⟩
                        have e12 : a.eval (.tmp 12) = (.slice o1 la c1) := hpar 12 _ (by kernel_rfl) (by kernel_rfl)
                        have h12 := (hcx.out).below hBl
                        exact wpv_of (wp_move _ _ rfl e12) (fun w' hb => by have h := h12; exact h12.below hb)
                      · obtain rfl := Option.some.inj ho
                        refine .inl ⟨rfl, ?_⟩
                        have e9 : a.eval (.tmp 9) = .int .i64 p := hpar 9 _ (by kernel_rfl) (by kernel_rfl)
                        exact wpv_of (wp_move _ _ rfl e9) (fun _ _ => rfl)
                      · obtain rfl := Option.some.inj ho
                        refine .inl ⟨rfl, ?_⟩
                        have e14 : a.eval (.tmp 14) = (.slice o2 lb c2) := hpar 14 _ (by kernel_rfl) (by kernel_rfl)
                        have h14 := (hdx.out).below hBl
                        exact wpv_of (wp_move _ _ rfl e14) (fun w' hb => by have h := h14; exact h14.below hb)
                      · obtain rfl := Option.some.inj ho
                        refine .inl ⟨rfl, ?_⟩
                        have e11 : a.eval (.tmp 11) = .int .i64 ((ix : Nat) : Int) := hpar 11 _ (by kernel_rfl) (by kernel_rfl)
                        exact wpv_of (wp_move _ _ rfl e11) (fun _ _ => rfl)
                      · obtain rfl := Option.some.inj ho
                        refine .inl ⟨rfl, ?_⟩
                        have e85 : a.eval (.tmp 85) = .int .i64 p := hrd 13 _ 85 rfl rfl (by kernel_rfl) (by kernel_rfl)
                        have h86 : (fun v w => IsRow w v (MB k)) (a.eval (.tmp 86)) w2 := hrd 14 _ 86 rfl rfl (by kernel_rfl) (by kernel_rfl)
                        generalize e86 : a.eval (.tmp 86) = v86 at h86
                        have e87 : a.eval (.tmp 87) = .int .i64 ((ix : Nat) : Int) := hrd 15 _ 87 rfl rfl (by kernel_rfl) (by kernel_rfl)
                        exact wpv_call 54 [.tmp 85, .tmp 86, .tmp 87] _ rfl [.int .i64 p, v86, .int .i64 ((ix : Nat) : Int)] (by simp only [List.map_cons, List.map_nil, e85, e86, e87]) Try.call54 (hspr.out k _ w2 h86)
                      · obtain rfl := Option.some.inj ho
                        refine .inl ⟨rfl, ?_⟩
                        have e83 : a.eval (.tmp 83) = .int .i64 p := hrd 11 _ 83 rfl rfl (by kernel_rfl) (by kernel_rfl)
                        have h84 : (fun v w => IsRow w v (MA ix)) (a.eval (.tmp 84)) w2 := hrd 12 _ 84 rfl rfl (by kernel_rfl) (by kernel_rfl)
                        generalize e84 : a.eval (.tmp 84) = v84 at h84
                        have h88 : (fun v w => IsRow w v (sprd (MB k) q)) (a.eval (.tmp 88)) w2 := hrd 16 _ 88 rfl rfl (by kernel_rfl) (by kernel_rfl)
                        generalize e88 : a.eval (.tmp 88) = v88 at h88
                        exact wpv_call 53 [.tmp 83, .tmp 84, .tmp 88] _ rfl [.int .i64 p, v84, v88] (by simp only [List.map_cons, List.map_nil, e83, e84, e88]) Try.call53 (htim.out k hfit _ _ w2 h84 h88)
                      · obtain rfl := Option.some.inj ho
                        refine .inl ⟨rfl, ?_⟩
                        have e76 : a.eval (.tmp 76) = .int .i64 p := hrd 4 _ 76 rfl rfl (by kernel_rfl) (by kernel_rfl)
                        have e82 : a.eval (.tmp 82) = (NN (ix + k)) := hrd 10 _ 82 rfl rfl (by kernel_rfl) (by kernel_rfl)
                        have h89 : (fun v w => IsRow w v (mulp p (MA ix) (sprd (MB k) q))) (a.eval (.tmp 89)) w2 := hrd 17 _ 89 rfl rfl (by kernel_rfl) (by kernel_rfl)
                        generalize e89 : a.eval (.tmp 89) = v89 at h89
                        exact wpv_call 46 [.tmp 76, .tmp 82, .tmp 89, .const (.int .i64 1)] _ rfl [.int .i64 p, (NN (ix + k)), v89, .int .i64 1] (by simp only [List.map_cons, List.map_nil, e76, e82, e89, eval_const]) Try.call46 (hcom.out _ _ w2 ((hR.out (ix + k) hikL).below hBl) h89)
                      · obtain rfl := Option.some.inj ho
                        refine .inl ⟨rfl, ?_⟩
                        have e72 : a.eval (.tmp 72) = .slice (some ⟨wz1.heap.size, 0, none⟩) (L) (L) := hrd 0 _ 72 rfl rfl (by kernel_rfl) (by kernel_rfl)
                        have e75 : a.eval (.tmp 75) = .int .i64 ((ix + k : Nat) : Int) := hrd 3 _ 75 rfl rfl (by kernel_rfl) (by kernel_rfl)
                        exact wpv_of (wp_index_row1 57 48 _ _ rfl uRowsT sRowT1 (wz1.heap.size) (L) (L) (ix + k) .i64 e72 e75 hikL) (fun _ _ => rfl)
                      · obtain rfl := Option.some.inj ho
                        exact absurd rfl hiZ
                      · simp at ho
                    intro oZ hoZ vals xE hBx hSx hc0
                    obtain rfl := Option.some.inj hoZ
                    clear hoZ
                    have e0 : vals 0 = .slice (some ⟨wz1.heap.size, 0, none⟩) (L) (L) := hc0 0 (by simp) (by decide)
                    have e1 : vals 1 = .int .i64 ((ix : Nat) : Int) := hc0 1 (by simp) (by decide)
                    have e2 : vals 2 = .int .i64 ((k : Nat) : Int) := hc0 2 (by simp) (by decide)
                    have e3 : vals 3 = .int .i64 ((ix + k : Nat) : Int) := hc0 3 (by simp) (by decide)
                    have e4 : vals 4 = .int .i64 p := hc0 4 (by simp) (by decide)
                    have e5 : vals 5 = .slice (some ⟨wz1.heap.size, 0, none⟩) (L) (L) := hc0 5 (by simp) (by decide)
                    have e6 : vals 6 = .int .i64 ((ix : Nat) : Int) := hc0 6 (by simp) (by decide)
                    have e7 : vals 7 = .int .i64 ((k : Nat) : Int) := hc0 7 (by simp) (by decide)
                    have e8 : vals 8 = .int .i64 ((ix + k : Nat) : Int) := hc0 8 (by simp) (by decide)
                    have e9 : vals 9 = .pointer (some ⟨wz1.heap.size, ix + k, none⟩) := hc0 9 (by simp) (by decide)
                    have e10 : vals 10 = (NN (ix + k)) := hc0 10 (by simp) (by decide)
                    have e11 : vals 11 = .int .i64 p := hc0 11 (by simp) (by decide)
                    have cE12 : (fun v w => IsRow w v (MA ix)) (vals 12) xE := hc0 12 (by simp) (by decide)
                    generalize ev12 : vals 12 = uE12 at cE12
                    have e13 : vals 13 = .int .i64 p := hc0 13 (by simp) (by decide)
                    have cE14 : (fun v w => IsRow w v (MB k)) (vals 14) xE := hc0 14 (by simp) (by decide)
                    generalize ev14 : vals 14 = uE14 at cE14
                    have e15 : vals 15 = .int .i64 ((ix : Nat) : Int) := hc0 15 (by simp) (by decide)
                    have cE16 : (fun v w => IsRow w v (sprd (MB k) q)) (vals 16) xE := hc0 16 (by simp) (by decide)
                    generalize ev16 : vals 16 = uE16 at cE16
                    have cE17 : (fun v w => IsRow w v (mulp p (MA ix) (sprd (MB k) q))) (vals 17) xE := hc0 17 (by simp) (by decide)
                    generalize ev17 : vals 17 = uE17 at cE17
                    have cE18 : (fun v w => IsRow w v (addp p (MK (ix + k)) (mulp p (MA ix) (sprd (MB k) q)) 1)) (vals 18) xE := hc0 18 (by simp) (by decide)
                    generalize ev18 : vals 18 = uE18 at cE18
                    have e19 : vals 19 = .pointer (some ⟨wz1.heap.size, ix + k, none⟩) := hc0 19 (by simp) (by decide)
                    refine ⟨rfl, ?_⟩
                    simp only [List.length_cons, List.length_nil, Nat.zero_add, Nat.reduceAdd, List.replicate, seenAll, Bool.false_eq_true, if_false, putAll, if_true, Act.put, List.setIfInBounds_toArray, List.set_cons_zero, List.set_cons_succ, e0, e1, e2, e3, e4, e5, e6, e7, e8, e9, e10, e11, ev12, e13, ev14, e15, ev16, ev17, ev18, e19]
                    replace hN := hN.keep hBx
                    replace hb := below_step hb hBx
                    clear hc0 hSx e0 e1 e2 e3 e4 e5 e6 e7 e8 e9 e10 e11 ev12 e13 ev14 e15 ev16 ev17 ev18 e19
                    have hM1 := show IsRow xE uE18 (addp p (MK (ix + k)) (mulp p (MA ix) (sprd (MB k) q)) 1) from cE18
                    clear cE12 cE14 cE16 cE17 cE18
                    have hsm := hM1.isSlice
                    refine wp_store_arrN 48 _ _ rfl (wz1.heap.size) (ix + k) rfl uE18 rfl L NN _ hN hikL sRowT1 (slice_one hsm) ?_
                    have hM2 := Lib.hid (hM1.setB hN (fun q _ => hNs q) (arr L (fun z => if z = ix + k then uE18 else NN z)))
                    have hR2 := Lib.hid (fun z (hz : z < L) => ((hR.out z hz).below hBx).setB hN (fun q _ => hNs q) (arr L (fun z => if z = ix + k then uE18 else NN z)))
                    have hNx := hN.setRow_same (cs := arr L (fun z => if z = ix + k then uE18 else NN z))
                    have hb2 := below_setRow hb (g := wz1.heap.size) hgw (arr L (fun z => if z = ix + k then uE18 else NN z))
                    have hG32 := grown_trans (grown_trans hG3 (below_grown hBx (some wz1.heap.size))) (setRow_grown xE wz1.heap.size (arr L (fun z => if z = ix + k then uE18 else NN z)))
                    have hG52 := grown_trans (grown_trans hG5 (below_grown hBx (some wz1.heap.size))) (setRow_grown xE wz1.heap.size (arr L (fun z => if z = ix + k then uE18 else NN z)))
                    clear hN hM1 hR hb hG3 hG5 hBx hcx hdx
                    go_wp2_with fail
                    go_roundw
                    case rel =>
                      refine ⟨k + 1, _, by omega, by go_num, hNx, fun z => ?_, Lib.hid fun z hz => ?_, hG32, hG52, hb2, Lib.hid fun k' hk' => ?_⟩
                      · by_cases e : z = ix + k
                        · simp only [if_pos e]; exact hsm
                        · simp only [if_neg e]; exact hNs z
                      · rw [hstep.out]
                        by_cases e : z = ix + k
                        · subst e; simp only [if_true]; exact hM2.out
                        · simp only [if_neg e]; exact hR2.out z hz
                      · by_cases e : k' = k
                        · subst e; exact hfc.out
                        · exact hfI.out k' (by omega)
                    case measure => simp [intOf] <;> omega
                  · have hbad : t = false := by
                      rw [Bool.eq_false_iff]
                      intro h
                      have h1 := htH.out.2 h ix hlt k hlt2 hAnH.out hBnH.out
                      rw [hlaH.out, hlbH.out, hqH.out, heH.out] at h1
                      exact hf h1
                    subst hbad
                    have hgt : (la : Int) - 1 + (e : Int) > 63 := by omega
                    go_wp2_with fail
                    refine hdc.out.mono ?_
                    rintro e1 y1 ⟨rfl, rfl⟩
                    go_wp2_with fail
                    refine hdd.out.mono ?_
                    rintro e1 y1 ⟨rfl, rfl⟩
                    go_wp2_with fail
                    refine (hnorm.out _).mono ?_
                    rintro e1 y1 ⟨rfl, rfl⟩
                    go_wp2_with fail
                    go_ret2
                    exact ⟨_, rfl, World.ownsRow_nil _ _ _ _, hb⟩
            · obtain rfl : k = nb := by omega
              go_wp2_with fail
              go_roundw
              case rel =>
                refine ⟨ix + 1, NN, by omega, by go_num, hN, hNs, hR, hG3, hb, Lib.hid fun ix' hi' => ?_⟩
                by_cases e : ix' = ix
                · subst e; exact hfI.out
                · exact hfO.out ix' (by omega)
              case measure => simp [intOf] <;> omega
        · obtain rfl : ix = na := by omega
          obtain rfl : true = t := (htH.out.1 fun ix' hi' k hk => hfO.out ix' hi' k hk).symm
          have hRB : RwB wo wz1.heap.size 48 (.slice (some ⟨wz1.heap.size, 0, none⟩) L L) L NN (cpO p P MA MB nb ix) := ⟨⟨_, rfl, fun _ => ⟨_, rfl, Nat.le_refl _, hN⟩⟩, hR.out⟩
          have hW := Lib.hid (withoutZeros_any _ L NN (cpO p P MA MB nb ix) _ _ wo hRB (by omega))
          have hPO := Lib.hid (hOP.out ix hfO.out)
          clear hRB hR hN
          go_wp2_with fail
          refine hW.out.mono ?_
          rintro e y1 ⟨u, rfl, hu, rfl⟩
          have hTAu := Lib.hid (hTA.out u _ NN _ hu (tlen_le _ _) hPO.out)
          obtain ⟨⟨oU, cU, rfl, _⟩, _⟩ := hu
          go_wp2_with fail
          refine hTAu.out.mono ?_
          rintro e y2 ⟨v, rfl, hv, hn⟩
          have hvH := Lib.hid (owns_mono' hv hb.size)
          have hb5 := below_step hb hn
          clear hv hn hb
          go_wp2_with fail
          go_ret2
          exact ⟨_, rfl, hvH.out, hb5⟩
  · have hz : (if (b && c && t) = true then tlen (cpO p P (rowL na F) (rowL nb G) nb na) (na + nb) else 0) = 0 := if_neg (fun h => hbc (by cases b <;> cases c <;> simp_all))
    rw [hz]
    have hg : (lcode b c != 0) = true := by cases b <;> cases c <;> simp_all [lcode]
    have he : lcode b c = ccode b c t := by cases b <;> cases c <;> simp_all [lcode, ccode]
    rw [← he]
    clear ha hb hF hG hbb hc hbc hz hP ht he
    go_enter Try.func25, Try.ntmps25
    go_wp2_with fail
    refine H1.out.mono ?_
    rintro e w1 ⟨rfl, hb1⟩
    go_wp2_with fail
    go_ret2
    exact ⟨_, rfl, World.ownsRow_nil _ _ _ _, hb1⟩
end Go.Proofs.Ytionaenmjndncab
