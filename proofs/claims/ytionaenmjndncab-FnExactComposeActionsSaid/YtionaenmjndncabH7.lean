/- Walks: the reference's ComposeActions. -/
import Derived.Test.YtionaenmjndncabH5
set_option linter.unusedVariables false
set_option linter.unusedSimpArgs false
namespace Go.Proofs.Ytionaenmjndncab
open Go.RowKit
theorem cm_step {p : Int} {P : Nat} (hp : Pr p) (hP : p = P) {a b : List Int} {i q : Nat} (hq : P ^ i = q) (hi : i ≤ 6) (ha : P64 p a) (hb : P64 p b) (h1 : a ≠ []) (h2 : b ≠ []) : ∃ W d1 F d2,
    (∀ w, Calls Try.prog 49 #[.int .i64 p, .agg (u8s 64 (cf b)), .int .i64 i] w fun e w' => e = .returned (.tuple #[.agg (u8s 64 (cf W)), .bool d1]) ∧ Below w.heap.size w w') ∧
    (∀ w, Calls Try.prog 50 #[.int .i64 p, .agg (u8s 64 (cf a)), .agg (u8s 64 (cf W))] w fun e w' => e = .returned (.tuple #[.agg (u8s 64 F), .bool d2]) ∧ Below w.heap.size w w') ∧
    (d1 && d2) = decide (a.length - 1 + (b.length - 1) * q ≤ 63) ∧ (a.length - 1 + (b.length - 1) * q ≤ 63 → F = cf (mulp p a (sprd b q))) := by
  have hp2 := hp.pos
  have hq0 : 0 < q := hq ▸ Nat.pow_pos (by omega)
  have hr := fun w => l04Raise_any b p P i q w hb hP hq.symm hi _ rfl
  have hal := List.length_pos_iff.2 h1
  by_cases hd : (b.length - 1) * q ≤ 63
  · have hW : raiF b q = cf (sprd b q) := by unfold raiF; rw [if_pos hd]
    rw [hW, decide_eq_true hd] at hr
    have hs : Po p (sprd b q) := sprd_Po (by omega) hb.po hq0
    have hsl := sprd_length h2 q
    have hsn : sprd b q ≠ [] := fun e => by rw [e] at hsl; simp at hsl
    have hl := mulp_length hp ha.po hs h1 hsn
    refine ⟨_, _, _, _, hr, fun w => l01Times_any _ _ p w ha ⟨hp, hs, by omega⟩, ?_, fun h => ?_⟩
    · rw [Bool.true_and]; exact decide_eq_decide.2 (by omega)
    · exact if_pos (by omega)
  · have hW : raiF b q = cf [] := by unfold raiF; rw [if_neg hd, cf_void]
    rw [hW, decide_eq_false hd] at hr
    refine ⟨_, _, _, _, hr, fun w => l01Times_any _ _ p w ha (P64.nil hp), ?_, fun h => absurd h (by omega)⟩
    rw [Bool.false_and]; exact (decide_eq_false (by omega)).symm
theorem Fl.zero {w : World} {B : Nat} {v : Value} {n : Nat} (h : Fl w B v n (fun _ => 0)) : PlS w B v n (fun _ => []) := by
  have h2 := h.pl
  exact h2.ext fun i hi => by
    rw [rowL_lt hi]
    exact mkp_eq Tr_nil fun j => by rw [cf_nil]; split <;> rfl
set_option maxRecDepth 20000 in
set_option maxHeartbeats 4000000 in
theorem specComposeActions_any (ga gb na nb ca cb BA BB : Nat) (F G : Nat → Int) (p : Int) (P : Nat) (w : World) (hF : By F) (hG : By G) (ha : Fl w BA (.slice (some ⟨ga, 0, none⟩) na ca) na F) (hb : Fl w BB (.slice (some ⟨gb, 0, none⟩) nb cb) nb G) (hna : na ≤ 10000000) (hnb : nb ≤ 10000000)
    (hP : Pr p → p = P) (b c t : Bool) (hbb : GoodL p na nb F G ↔ b = true) (hc : decide (na ≤ 7 ∧ nb ≤ 7) = c) (ht : CFit P (rowL na F) (rowL nb G) na nb ↔ t = true) :
    Calls Try.prog 24 #[.int .i64 p, .slice (some ⟨ga, 0, none⟩) na ca, .slice (some ⟨gb, 0, none⟩) nb cb] w fun e w' => ∃ v, e = .returned (.tuple #[v, .int .i64 (ccode b c t)]) ∧ PlS w' w.heap.size v (cmN p P na nb F G b c t) (cpO p P (rowL na F) (rowL nb G) nb na) ∧ Below w.heap.size w w' := by
  have H1 := Lib.hid (l04Lists_any _ _ na nb BA BB F G p w hF hG ha hb hna hnb b c hbb hc)
  have hAL := Lib.hid ha.pl
  have hBL := Lib.hid hb.pl
  unfold cmN
  by_cases hbc : (b && c) = true
  · have hbT : b = true := by cases b <;> simp_all
    have hcT : c = true := by cases c <;> simp_all
    subst hbT hcT
    obtain ⟨hp, hAF, hAG⟩ := hbb.2 rfl
    have h7 := of_decide_eq_true hc
    have hp2 := hp.pos
    have hPe := hP hp
    have hMA := Lib.hid (rowL_P64 hp hF hAF)
    have hMB := Lib.hid (rowL_P64 hp hG hAG)
    obtain ⟨MA, hMAe⟩ : ∃ M, rowL na F = M := ⟨_, rfl⟩
    obtain ⟨MB, hMBe⟩ : ∃ M, rowL nb G = M := ⟨_, rfl⟩
    rw [hMAe] at hMA ht hAL
    rw [hMBe] at hMB ht hBL
    rw [hMAe, hMBe]
    obtain ⟨N, hN⟩ : ∃ N, na + nb = N := ⟨_, rfl⟩
    rw [hN]
    have hPP : 2 ≤ P := by omega
    have hOP := Lib.hid (fun i (h : ∀ i', i' < i → ∀ k, k < nb → CFit1 P MA MB i' k) => cpO_P64 hp hPP hMA.out hMB.out i h)
    have hIP := Lib.hid (fun i k (h : ∀ j, P64 p (cpO p P MA MB nb i j)) (h2 : ∀ k', k' < k → CFit1 P MA MB i k') => cpI_P64 hPP hMA.out hMB.out h k h2)
    have hTr := Lib.hid (fun u B w (h : PlS w B u N (cpO p P MA MB nb na)) (hS : ∀ j, P64 p (cpO p P MA MB nb na j)) => l04TrimG_any u N B p (cpO p P MA MB nb na) w h (by omega) fun i _ => hS i)
    have hpH := Lib.hid hp
    have hPH := Lib.hid hPe
    have htH := Lib.hid ht
    have hna7 : na ≤ 7 := h7.1
    have hnb7 : nb ≤ 7 := h7.2
    have hN1 : ((na : Int) + (nb : Int)) = (N : Int) := by omega
    have hNle : N ≤ 14 := by omega
    have hNik : ∀ i k, i < na → k < nb → i + k < N := fun i k h1 h2 => by omega
    have hNikH := Lib.hid hNik
    clear ha hb hF hG hbb hc hbc ht hP hMAe hMBe hp hAF hAG hPe h7 hN hNik hna hnb
    go_enter Try.func24, Try.ntmps24
    go_wp2_with fail
    refine H1.out.mono ?_
    rintro e wz1 ⟨rfl, hb1⟩
    have hg : (lcode true true != 0) = false := rfl
    go_wp2_with ((with_reducible refine wpl_guard ?_); first | (refine wpl_make_fl rfl 29 _ _ rfl uPolys1 iPoly .i64 .i64 N rfl rfl (by omega) w.heap.size hb1.size ?_; intro wz2 hFl hg2))
    obtain ⟨gO, hgOe⟩ : ∃ gO, wz1.heap.size = gO := ⟨_, rfl⟩
    have hgO : w.heap.size ≤ gO := hgOe ▸ hb1.size
    have hO0 := Lib.hid hFl.zero
    have hb0 : Below w.heap.size w wz2 := hb1.trans (grown_belowP hg2 (fun k e => by cases e) hb1.size)
    rw [hgOe] at hO0 ⊢
    clear hFl hg2 hb1 hgOe
    go_loopw [10] (fun iv wo => ∃ ix : Nat, ix ≤ na ∧ iv = .int .i64 (ix : Int) ∧ Hid (PlS wo w.heap.size (.slice (some ⟨gO, 0, none⟩) N N) N (cpO p P MA MB nb ix)) ∧ Below w.heap.size w wo ∧ Hid (∀ i', i' < ix → ∀ k, k < nb → CFit1 P MA MB i' k)) (fun iv _ => na - (intOf iv).toNat)
    case atStart => exact ⟨0, by omega, rfl, hO0, hb0, Lib.hid fun i' h => absurd h (by omega)⟩
    case round =>
      clear hO0 hb0
      rename World => wo
      obtain ⟨ix, hix, rfl, hO, hb, hfO⟩ := hrel
      by_cases hlt : ix < na
      · obtain ⟨q, hq⟩ : ∃ q, P ^ ix = q := ⟨_, rfl⟩
        have hPO := Lib.hid (hOP.out ix hfO.out)
        have hst := Lib.hid (fun k (h1 : MA ix ≠ []) (h2 : MB k ≠ []) => cm_step hpH.out hPH.out hq (by omega) (hMA.out ix) (hMB.out k) h1 h2)
        have hq0 : 0 < q := hq ▸ Nat.pow_pos (by omega)
        have hqH := Lib.hid hq
        clear hq
        go_wp2_with fail
        go_loopw [11] (fun kv wq => ∃ k : Nat, k ≤ nb ∧ kv = .int .i64 (k : Int) ∧ Hid (PlS wq w.heap.size (.slice (some ⟨gO, 0, none⟩) N N) N (cpI p P (MA ix) MB ix k (cpO p P MA MB nb ix))) ∧ Below w.heap.size w wq ∧ Hid (∀ k', k' < k → CFit1 P MA MB ix k')) (fun kv _ => nb - (intOf kv).toNat)
        case atStart => exact ⟨0, by omega, rfl, hO, hb, Lib.hid fun k' h => absurd h (by omega)⟩
        case round =>
          clear hO hb
          rename World => wq
          obtain ⟨k, hk, rfl, hO, hb, hfI⟩ := hrel
          by_cases hlt2 : k < nb
          · have hcA := Lib.hid ((hAL.out.below hb).cells ix hlt)
            have hcB := Lib.hid ((hBL.out.below hb).cells k hlt2)
            by_cases hA0 : MA ix = []
            · skip
              have hsk := Lib.hid (Or.inl hA0 : MA ix = [] ∨ MB k = [])
              go_wp2_with ((with_reducible refine wpl_guard ?_); first | (refine wpl_load_mid rfl 23 _ rfl ga (ix * 64) rfl 64 _ _ hcA.out uPoly sPoly ?_) | (refine wpl_load_mid rfl 23 _ rfl gb (k * 64) rfl 64 _ _ hcB.out uPoly sPoly ?_) | (refine wpl_build_zero rfl 23 64 5 rfl _ uPoly sByte zPoly ?_) | (refine wpl_eql_arr rfl 23 _ _ _ rfl 64 .u8 (cf (MA ix)) (cf []) 5 rfl rfl uPoly uByte sByte gPoly _ (z_dec hA0) ?_))
              go_roundw
              case rel =>
                refine ⟨k + 1, by omega, by go_num, by rw [cpI_skip hsk.out]; exact hO, hb, Lib.hid fun k' hk' => ?_⟩
                by_cases e : k' = k
                · subst e; exact fun h1 h2 => by rcases hsk.out with h | h; exact absurd h h1; exact absurd h h2
                · exact hfI.out k' (by omega)
              case measure => simp [intOf] <;> omega
            · by_cases hB0 : MB k = []
              · skip
                have hsk := Lib.hid (Or.inr hB0 : MA ix = [] ∨ MB k = [])
                go_wp2_with ((with_reducible refine wpl_guard ?_); first | (refine wpl_load_mid rfl 23 _ rfl ga (ix * 64) rfl 64 _ _ hcA.out uPoly sPoly ?_) | (refine wpl_load_mid rfl 23 _ rfl gb (k * 64) rfl 64 _ _ hcB.out uPoly sPoly ?_) | (refine wpl_build_zero rfl 23 64 5 rfl _ uPoly sByte zPoly ?_) | (refine wpl_eql_arr rfl 23 _ _ _ rfl 64 .u8 (cf (MA ix)) (cf []) 5 rfl rfl uPoly uByte sByte gPoly _ (nz_dec2 (hMA.out ix) hA0) ?_) | (refine wpl_eql_arr rfl 23 _ _ _ rfl 64 .u8 (cf (MB k)) (cf []) 5 rfl rfl uPoly uByte sByte gPoly _ (z_dec hB0) ?_))
                go_roundw
                case rel =>
                  refine ⟨k + 1, by omega, by go_num, by rw [cpI_skip hsk.out]; exact hO, hb, Lib.hid fun k' hk' => ?_⟩
                  by_cases e : k' = k
                  · subst e; exact fun h1 h2 => by rcases hsk.out with h | h; exact absurd h h1; exact absurd h h2
                  · exact hfI.out k' (by omega)
                case measure => simp [intOf] <;> omega
              · obtain ⟨W, d1, Fp, d2, kR, kT, hdd, hFp⟩ := hst.out k hA0 hB0
                have kRH := Lib.hid kR
                have kTH := Lib.hid kT
                have hddH := Lib.hid hdd
                have hFpH := Lib.hid hFp
                clear kR kT hdd hFp
                have kR := kRH
                have kT := kTH
                clear kRH kTH
                have hikN := hNikH.out ix k hlt hlt2
                have hbf : ¬ ((MA ix).length - 1 + ((MB k).length - 1) * q ≤ 63) → t = false := fun hf => by
                  rw [Bool.eq_false_iff]
                  intro h
                  have h1 := htH.out.2 h ix hlt k hlt2 hA0 hB0
                  rw [hqH.out] at h1
                  exact hf h1
                have hbfH := Lib.hid hbf
                clear hbf
                go_wp2_with ((with_reducible refine wpl_guard ?_); first | (refine wpl_load_mid rfl 23 _ rfl ga (ix * 64) rfl 64 _ _ hcA.out uPoly sPoly ?_) | (refine wpl_load_mid rfl 23 _ rfl gb (k * 64) rfl 64 _ _ hcB.out uPoly sPoly ?_) | (refine wpl_build_zero rfl 23 64 5 rfl _ uPoly sByte zPoly ?_) | (refine wpl_eql_arr rfl 23 _ _ _ rfl 64 .u8 (cf (MA ix)) (cf []) 5 rfl rfl uPoly uByte sByte gPoly _ (nz_dec2 (hMA.out ix) hA0) ?_) | (refine wpl_eql_arr rfl 23 _ _ _ rfl 64 .u8 (cf (MB k)) (cf []) 5 rfl rfl uPoly uByte sByte gPoly _ (nz_dec2 (hMB.out k) hB0) ?_))
                refine (kR.out _).mono ?_
                rintro e y1 ⟨rfl, hn⟩
                replace hO := Lib.hid (hO.out.below hn)
                replace hb := below_step hb hn
                clear hn
                have hn := below_new y1 (.cells (u8s 64 (cf W)) 23)
                have hQ := Blk.new y1 (u8s 64 (cf W)) 23
                replace hO := Lib.hid (hO.out.below hn)
                replace hb := below_step hb hn
                clear hn
                have hLc := Lib.hid (hAL.out.below hb)
                clear hcA hcB
                go_upto_region 13 with ((with_reducible refine wpl_guard ?_); first | (refine wpl_alloc_arr rfl 23 rfl _ zPoly ?_) | (refine wpl_store_new rfl 23 _ _ rfl _ rfl rfl _ rfl sPoly (by simp only [u8s_size]) (u8s_oneCell _ _) ?_))
                refine law_region2 (by kernel_rfl) (by kernel_rfl) (by kernel_rfl) (by kernel_rfl)
                    (fun i => ([some (.int .i64 p), some (.slice (some ⟨ga, 0, none⟩) na ca), some (.int .i64 (ix : Int)), some (.pointer (some ⟨ga, ix * 64, none⟩)), some (.agg (u8s 64 (cf (MA ix)))), some (.agg (u8s 64 (cf W))), some (.tuple #[.agg (u8s 64 Fp), .bool d2]), some (.tuple #[.agg (u8s 64 Fp), .bool d2]), some (.agg (u8s 64 Fp)), some (.bool d2), none, none, some (.bool d2)] : List (Option Value)).getD i none) 1 (fun zk => [10].getD zk 0) (fun zk => [11].getD zk 0) (fun zk => [8].getD zk 0) (fun zk => [14].getD zk 0) (fun zk => [73].getD zk 0) (fun zk => [64].getD zk 0) (fun zk => [(Fp)].getD zk (fun _ => 0)) (fun zk => [23].getD zk 0) ?_ ?_ ?_ ?_ ?_ ?_
                · intro i hi
                  rcases i with _|_|_|_|_|_|_|_|_|_|_|_|_|i
                  · exact .inl ⟨_, rfl⟩
                  · exact .inl ⟨_, rfl⟩
                  · exact .inl ⟨_, rfl⟩
                  · exact .inl ⟨_, rfl⟩
                  · exact .inl ⟨_, rfl⟩
                  · exact .inl ⟨_, rfl⟩
                  · exact .inl ⟨_, rfl⟩
                  · exact .inl ⟨_, rfl⟩
                  · exact .inl ⟨_, rfl⟩
                  · exact .inl ⟨_, rfl⟩
                  · exact .inr (.inl ⟨0, by decide, rfl⟩)
                  · exact .inr (.inr ⟨0, by decide, rfl⟩)
                  · exact .inl ⟨_, rfl⟩
                  · simp only [List.length_cons, List.length_nil] at hi; omega
                · intro k hk
                  rcases k with _|k
                  · exact ⟨rfl, rfl, rfl, zPoly⟩
                  · omega
                · intro k hk k' hk'
                  rcases k with _|k
                  all_goals rcases k' with _|k'
                  all_goals first | omega | exact ⟨by decide, by decide, by decide⟩
                · intro k hk
                  rcases k with _|k
                  · kernel_rfl
                  · omega
                · intro i o c ho hc a w2 hBw hrd hpar
                  rcases i with _|_|_|_|_|_|_|_|_|_|_|_|_|i
                  · obtain rfl := Option.some.inj ho
                    obtain rfl := Option.some.inj hc
                    exact wp_move _ (.int .i64 p) rfl (hpar 0 _ (by kernel_rfl) (by kernel_rfl))
                  · obtain rfl := Option.some.inj ho
                    obtain rfl := Option.some.inj hc
                    exact wp_move _ (.slice (some ⟨ga, 0, none⟩) na ca) rfl (hpar 1 _ (by kernel_rfl) (by kernel_rfl))
                  · obtain rfl := Option.some.inj ho
                    obtain rfl := Option.some.inj hc
                    exact wp_move _ (.int .i64 (ix : Int)) rfl (hpar 10 _ (by kernel_rfl) (by kernel_rfl))
                  · obtain rfl := Option.some.inj ho
                    obtain rfl := Option.some.inj hc
                    exact wp_index_pl 29 23 64 _ _ rfl uPolys1 sPoly (by decide) ga na ca ix .i64 (hrd 1 _ _ 67 rfl rfl rfl (by kernel_rfl) (by kernel_rfl)) (hrd 2 _ _ 68 rfl rfl rfl (by kernel_rfl) (by kernel_rfl)) hlt
                  · obtain rfl := Option.some.inj ho
                    obtain rfl := Option.some.inj hc
                    exact wp_load_pl 23 _ rfl ga ix (hrd 3 _ _ 69 rfl rfl rfl (by kernel_rfl) (by kernel_rfl)) _ ((hLc.out.below hBw).cells ix hlt) _ uPoly sPoly
                  · obtain rfl := Option.some.inj ho
                    obtain rfl := Option.some.inj hc
                    exact wp_loadB 23 _ rfl _ (hpar 12 (.pointer (some ⟨y1.heap.size, 0, none⟩)) (by kernel_rfl) (by kernel_rfl)) _ _ (hQ.keep hBw) _ _ uPoly sPoly
                  · obtain rfl := Option.some.inj ho
                    obtain rfl := Option.some.inj hc
                    exact wp_callB 50 [.tmp 66, .tmp 70, .tmp 71] _ rfl [.int .i64 p, .agg (u8s 64 (cf (MA ix))), .agg (u8s 64 (cf W))] (by simp only [List.map_cons, List.map_nil, (hrd 0 _ _ 66 rfl rfl rfl (by kernel_rfl) (by kernel_rfl)), (hrd 4 _ _ 70 rfl rfl rfl (by kernel_rfl) (by kernel_rfl)), (hrd 5 _ _ 71 rfl rfl rfl (by kernel_rfl) (by kernel_rfl))]) Try.call50 _ (kT.out w2)
                  · obtain rfl := Option.some.inj ho
                    obtain rfl := Option.some.inj hc
                    exact wp_move _ (.tuple #[.agg (u8s 64 Fp), .bool d2]) rfl (hrd 6 _ _ 72 rfl rfl rfl (by kernel_rfl) (by kernel_rfl))
                  · obtain rfl := Option.some.inj ho
                    obtain rfl := Option.some.inj hc
                    exact wp_extract _ 0 #[.agg (u8s 64 Fp), .bool d2] _ rfl (hrd 7 _ _ 65 rfl rfl rfl (by kernel_rfl) (by kernel_rfl)) rfl
                  · obtain rfl := Option.some.inj ho
                    obtain rfl := Option.some.inj hc
                    exact wp_extract _ 1 #[.agg (u8s 64 Fp), .bool d2] _ rfl (hrd 7 _ _ 65 rfl rfl rfl (by kernel_rfl) (by kernel_rfl)) rfl
                  · cases hc
                  · cases hc
                  · obtain rfl := Option.some.inj ho
                    obtain rfl := Option.some.inj hc
                    exact wp_assign _ (.bool d2) rfl (hrd 9 _ _ 74 rfl rfl rfl (by kernel_rfl) (by kernel_rfl))
                  · cases hc
                intro vals xJ hBw hc hr
                have e0 : vals 0 = .int .i64 p := hc 0 _ (by simp) rfl
                have e1 : vals 1 = .slice (some ⟨ga, 0, none⟩) na ca := hc 1 _ (by simp) rfl
                have e2 : vals 2 = .int .i64 (ix : Int) := hc 2 _ (by simp) rfl
                have e3 : vals 3 = .pointer (some ⟨ga, ix * 64, none⟩) := hc 3 _ (by simp) rfl
                have e4 : vals 4 = .agg (u8s 64 (cf (MA ix))) := hc 4 _ (by simp) rfl
                have e5 : vals 5 = .agg (u8s 64 (cf W)) := hc 5 _ (by simp) rfl
                have e6 : vals 6 = .tuple #[.agg (u8s 64 Fp), .bool d2] := hc 6 _ (by simp) rfl
                have e7 : vals 7 = .tuple #[.agg (u8s 64 Fp), .bool d2] := hc 7 _ (by simp) rfl
                have e8 : vals 8 = .agg (u8s 64 Fp) := hc 8 _ (by simp) rfl
                have e9 : vals 9 = .bool d2 := hc 9 _ (by simp) rfl
                have e12 : vals 12 = .bool d2 := hc 12 _ (by simp) rfl
                obtain ⟨gJ0, p0, hgJ0, hJ0⟩ : ∃ g, vals 10 = .pointer (some ⟨g, 0, none⟩) ∧ _ ≤ g ∧ Blk xJ g (u8s 64 (Fp)) 23 := hr 0 (by decide)
                simp only [List.length_cons, List.length_nil, Nat.zero_add, Nat.reduceAdd, List.replicate, putAll, if_true, Act.put, List.setIfInBounds_toArray, List.set_cons_zero, List.set_cons_succ, e0, e1, e2, e3, e4, e5, e6, e7, e8, e9, e12, p0]
                clear hc hr e0 e1 e2 e3 e4 e5 e6 e7 e8 e9 e12 p0
                have hn := hBw
                replace hO := Lib.hid (hO.out.below hn)
                replace hb := below_step hb hn
                clear hn
                clear hBw hQ hLc
                have hbfD := Lib.hid (fun (h : (d1 && d2) = false) => hbfH.out fun hf => by rw [hddH.out, decide_eq_true hf] at h; cases h)
                cases d1
                · obtain rfl := hbfD.out (by first | rfl | trivial)
                  go_wp2_with fail
                  go_ret2
                  exact ⟨_, rfl, World.ownsRow_nil _ _ _ _, hb⟩
                · cases d2
                  · obtain rfl := hbfD.out (by first | rfl | trivial)
                    go_wp2_with fail
                    go_ret2
                    exact ⟨_, rfl, World.ownsRow_nil _ _ _ _, hb⟩
                  · have hf : (MA ix).length - 1 + ((MB k).length - 1) * q ≤ 63 := of_decide_eq_true hddH.out.symm
                    have hFe := hFpH.out hf
                    have hfc := Lib.hid (show CFit1 P MA MB ix k from fun _ _ => by rw [hqH.out]; exact hf)
                    have hstep := Lib.hid (cpI_step (p := p) (P := P) (i := ix) (M := cpO p P MA MB nb ix) hA0 hB0)
                    have hPK := hIP.out ix k hPO.out hfI.out
                    have hPX := (prod_P64 (P := P) hPP hq0 (hMA.out ix) (hMB.out k) hA0 hB0 hf).1
                    rw [hqH.out] at hstep
                    obtain ⟨MK, hMK⟩ : ∃ M, cpI p P (MA ix) MB ix k (cpO p P MA MB nb ix) = M := ⟨_, rfl⟩
                    obtain ⟨D, hD⟩ : ∃ D, mulp p (MA ix) (sprd (MB k) q) = D := ⟨_, rfl⟩
                    rw [hMK] at hstep hPK hO
                    rw [hD] at hstep hPX hFe
                    have hadd := Lib.hid (fun w => l01Add_list (MK (ix + k)) D p 1 w (hPK (ix + k)) hPX (by decide) (by decide))
                    subst hFe
                    clear hMK hPK hPX hD hf hFpH hddH hbfH hbfD kR kT hst
                    go_upto_region 16 with (fail)
                    refine gen_last (w := _) (by kernel_rfl) (by kernel_rfl) (by kernel_rfl) 14 (by kernel_rfl)
                        (fun i => ([fun zv _ => zv = .slice (some ⟨gO, 0, none⟩) N N, fun zv _ => zv = .int .i64 ((ix : Nat) : Int), fun zv _ => zv = .int .i64 ((k : Nat) : Int), fun zv _ => zv = .int .i64 ((ix + k : Nat) : Int), fun zv _ => zv = .int .i64 p, fun zv _ => zv = .slice (some ⟨gO, 0, none⟩) N N, fun zv _ => zv = .int .i64 ((ix : Nat) : Int), fun zv _ => zv = .int .i64 ((k : Nat) : Int), fun zv _ => zv = .int .i64 ((ix + k : Nat) : Int), fun zv _ => zv = .pointer (some ⟨gO, (ix + k) * 64, none⟩), fun zv _ => zv = .agg (u8s 64 (cf (MK (ix + k)))), fun zv _ => zv = .agg (u8s 64 (cf D)), fun zv _ => zv = .agg (u8s 64 (cf (addp p (MK (ix + k)) D 1))), fun zv _ => zv = .pointer (some ⟨gO, (ix + k) * 64, none⟩), fun _ _ => True] : List (Value → World → Prop)).getD i (fun _ _ => True))
                        (fun w' => Blk w' (gJ0) (u8s 64 (cf D)) 23 ∧ True) ⟨hJ0.drew, trivial⟩ (fun w1 w2 h hb => ⟨h.1.keep hb, trivial⟩) ?_ ?_ ?_
                    · intro i v w1 w2 h hb
                      rcases i with _|_|_|_|_|_|_|_|_|_|_|_|_|_|_|i
                      · exact h
                      · exact h
                      · exact h
                      · exact h
                      · exact h
                      · exact h
                      · exact h
                      · exact h
                      · exact h
                      · exact h
                      · exact h
                      · exact h
                      · exact h
                      · exact h
                      · exact h
                      · exact h
                    · intro i o ho hiZ a w2 hBl hSx hrd hpar
                      rcases i with _|_|_|_|_|_|_|_|_|_|_|_|_|_|_|i
                      · obtain rfl := Option.some.inj ho
                        refine .inl ⟨rfl, ?_⟩
                        have e9 : a.eval (.tmp 9) = .slice (some ⟨gO, 0, none⟩) N N := hpar 9 _ (by kernel_rfl) (by kernel_rfl)
                        exact wpv_of (wp_move _ _ rfl e9) (fun _ _ => rfl)
                      · obtain rfl := Option.some.inj ho
                        refine .inl ⟨rfl, ?_⟩
                        have e10 : a.eval (.tmp 10) = .int .i64 ((ix : Nat) : Int) := hpar 10 _ (by kernel_rfl) (by kernel_rfl)
                        exact wpv_of (wp_move _ _ rfl e10) (fun _ _ => rfl)
                      · obtain rfl := Option.some.inj ho
                        refine .inl ⟨rfl, ?_⟩
                        have e11 : a.eval (.tmp 11) = .int .i64 ((k : Nat) : Int) := hpar 11 _ (by kernel_rfl) (by kernel_rfl)
                        exact wpv_of (wp_move _ _ rfl e11) (fun _ _ => rfl)
                      · obtain rfl := Option.some.inj ho
                        refine .inl ⟨rfl, ?_⟩
                        have e82 : a.eval (.tmp 82) = .int .i64 ((ix : Nat) : Int) := hrd 1 _ 82 rfl rfl (by kernel_rfl) (by kernel_rfl)
                        have e83 : a.eval (.tmp 83) = .int .i64 ((k : Nat) : Int) := hrd 2 _ 83 rfl rfl (by kernel_rfl) (by kernel_rfl)
                        exact wpv_of (wp_addN _ _ _ _ rfl ix k e82 e83 (by omega) (by omega)) (fun _ _ => rfl)
                      · obtain rfl := Option.some.inj ho
                        refine .inl ⟨rfl, ?_⟩
                        have e0 : a.eval (.tmp 0) = .int .i64 p := hpar 0 _ (by kernel_rfl) (by kernel_rfl)
                        exact wpv_of (wp_move _ _ rfl e0) (fun _ _ => rfl)
                      · obtain rfl := Option.some.inj ho
                        refine .inl ⟨rfl, ?_⟩
                        have e9 : a.eval (.tmp 9) = .slice (some ⟨gO, 0, none⟩) N N := hpar 9 _ (by kernel_rfl) (by kernel_rfl)
                        exact wpv_of (wp_move _ _ rfl e9) (fun _ _ => rfl)
                      · obtain rfl := Option.some.inj ho
                        refine .inl ⟨rfl, ?_⟩
                        have e10 : a.eval (.tmp 10) = .int .i64 ((ix : Nat) : Int) := hpar 10 _ (by kernel_rfl) (by kernel_rfl)
                        exact wpv_of (wp_move _ _ rfl e10) (fun _ _ => rfl)
                      · obtain rfl := Option.some.inj ho
                        refine .inl ⟨rfl, ?_⟩
                        have e11 : a.eval (.tmp 11) = .int .i64 ((k : Nat) : Int) := hpar 11 _ (by kernel_rfl) (by kernel_rfl)
                        exact wpv_of (wp_move _ _ rfl e11) (fun _ _ => rfl)
                      · obtain rfl := Option.some.inj ho
                        refine .inl ⟨rfl, ?_⟩
                        have e87 : a.eval (.tmp 87) = .int .i64 ((ix : Nat) : Int) := hrd 6 _ 87 rfl rfl (by kernel_rfl) (by kernel_rfl)
                        have e88 : a.eval (.tmp 88) = .int .i64 ((k : Nat) : Int) := hrd 7 _ 88 rfl rfl (by kernel_rfl) (by kernel_rfl)
                        exact wpv_of (wp_addN _ _ _ _ rfl ix k e87 e88 (by omega) (by omega)) (fun _ _ => rfl)
                      · obtain rfl := Option.some.inj ho
                        refine .inl ⟨rfl, ?_⟩
                        have e86 : a.eval (.tmp 86) = .slice (some ⟨gO, 0, none⟩) N N := hrd 5 _ 86 rfl rfl (by kernel_rfl) (by kernel_rfl)
                        have e89 : a.eval (.tmp 89) = .int .i64 ((ix + k : Nat) : Int) := hrd 8 _ 89 rfl rfl (by kernel_rfl) (by kernel_rfl)
                        exact wpv_of (wp_index_pl 29 23 64 _ _ rfl uPolys1 sPoly (by decide) gO N N (ix + k) .i64 e86 e89 hikN) (fun _ _ => rfl)
                      · obtain rfl := Option.some.inj ho
                        refine .inl ⟨rfl, ?_⟩
                        have e90 : a.eval (.tmp 90) = .pointer (some ⟨gO, (ix + k) * 64, none⟩) := hrd 9 _ 90 rfl rfl (by kernel_rfl) (by kernel_rfl)
                        exact wpv_of (wp_load_pl 23 _ rfl gO (ix + k) e90 _ ((hO.out.below hBl).cells (ix + k) hikN) _ uPoly sPoly) (fun _ _ => rfl)
                      · obtain rfl := Option.some.inj ho
                        refine .inl ⟨rfl, ?_⟩
                        exact wpv_of (wp_loadB 23 _ rfl _ (hpar 14 (.pointer (some ⟨gJ0, 0, none⟩)) (by kernel_rfl) (by kernel_rfl)) _ _ hSx.1 _ _ uPoly sPoly) (fun _ _ => rfl)
                      · obtain rfl := Option.some.inj ho
                        refine .inl ⟨rfl, ?_⟩
                        have e85 : a.eval (.tmp 85) = .int .i64 p := hrd 4 _ 85 rfl rfl (by kernel_rfl) (by kernel_rfl)
                        have e91 : a.eval (.tmp 91) = .agg (u8s 64 (cf (MK (ix + k)))) := hrd 10 _ 91 rfl rfl (by kernel_rfl) (by kernel_rfl)
                        have e92 : a.eval (.tmp 92) = .agg (u8s 64 (cf D)) := hrd 11 _ 92 rfl rfl (by kernel_rfl) (by kernel_rfl)
                        exact wpv_call 42 [.tmp 85, .tmp 91, .tmp 92, .const (.int .i64 1)] _ rfl [.int .i64 p, .agg (u8s 64 (cf (MK (ix + k)))), .agg (u8s 64 (cf D)), .int .i64 1] (by simp only [List.map_cons, List.map_nil, e85, e91, e92, eval_const]) Try.call42 ((hadd.out w2).mono fun _ _ h => ⟨_, h.1, rfl, h.2⟩)
                      · obtain rfl := Option.some.inj ho
                        refine .inl ⟨rfl, ?_⟩
                        have e81 : a.eval (.tmp 81) = .slice (some ⟨gO, 0, none⟩) N N := hrd 0 _ 81 rfl rfl (by kernel_rfl) (by kernel_rfl)
                        have e84 : a.eval (.tmp 84) = .int .i64 ((ix + k : Nat) : Int) := hrd 3 _ 84 rfl rfl (by kernel_rfl) (by kernel_rfl)
                        exact wpv_of (wp_index_pl 29 23 64 _ _ rfl uPolys1 sPoly (by decide) gO N N (ix + k) .i64 e81 e84 hikN) (fun _ _ => rfl)
                      · obtain rfl := Option.some.inj ho
                        exact absurd rfl hiZ
                      · simp at ho
                    intro oZ hoZ vals xE hBx hSx hc0
                    obtain rfl := Option.some.inj hoZ
                    clear hoZ
                    have e0 : vals 0 = .slice (some ⟨gO, 0, none⟩) N N := hc0 0 (by simp) (by decide)
                    have e1 : vals 1 = .int .i64 ((ix : Nat) : Int) := hc0 1 (by simp) (by decide)
                    have e2 : vals 2 = .int .i64 ((k : Nat) : Int) := hc0 2 (by simp) (by decide)
                    have e3 : vals 3 = .int .i64 ((ix + k : Nat) : Int) := hc0 3 (by simp) (by decide)
                    have e4 : vals 4 = .int .i64 p := hc0 4 (by simp) (by decide)
                    have e5 : vals 5 = .slice (some ⟨gO, 0, none⟩) N N := hc0 5 (by simp) (by decide)
                    have e6 : vals 6 = .int .i64 ((ix : Nat) : Int) := hc0 6 (by simp) (by decide)
                    have e7 : vals 7 = .int .i64 ((k : Nat) : Int) := hc0 7 (by simp) (by decide)
                    have e8 : vals 8 = .int .i64 ((ix + k : Nat) : Int) := hc0 8 (by simp) (by decide)
                    have e9 : vals 9 = .pointer (some ⟨gO, (ix + k) * 64, none⟩) := hc0 9 (by simp) (by decide)
                    have e10 : vals 10 = .agg (u8s 64 (cf (MK (ix + k)))) := hc0 10 (by simp) (by decide)
                    have e11 : vals 11 = .agg (u8s 64 (cf D)) := hc0 11 (by simp) (by decide)
                    have e12 : vals 12 = .agg (u8s 64 (cf (addp p (MK (ix + k)) D 1))) := hc0 12 (by simp) (by decide)
                    have e13 : vals 13 = .pointer (some ⟨gO, (ix + k) * 64, none⟩) := hc0 13 (by simp) (by decide)
                    refine ⟨rfl, ?_⟩
                    simp only [List.length_cons, List.length_nil, Nat.zero_add, Nat.reduceAdd, List.replicate, seenAll, Bool.false_eq_true, if_false, putAll, if_true, Act.put, List.setIfInBounds_toArray, List.set_cons_zero, List.set_cons_succ, e0, e1, e2, e3, e4, e5, e6, e7, e8, e9, e10, e11, e12, e13]
                    replace hJ0 := hSx.1
                    replace hb := below_step hb hBx
                    clear hc0 hSx e0 e1 e2 e3 e4 e5 e6 e7 e8 e9 e10 e11 e12 e13
                    replace hO := Lib.hid (hO.out.below hBx)
                    clear hBx hJ0
                    have hOc := hO.out
                    refine wp_store_pl 23 _ _ rfl gO (ix + k) rfl (addp p (MK (ix + k)) D 1) rfl w.heap.size N N _ hOc hikN sPoly ?_
                    intro w7 hO7 hg7
                    try simp only [Act.put, List.setIfInBounds_toArray, List.set_cons_zero, List.set_cons_succ]
                    have hO8 := Lib.hid hO7
                    have hb8 := hb.trans (grown_belowP hg7 (fun q e => by injection e with e; omega) hb.size)
                    clear hO7 hg7 hOc hO hb
                    go_wp2_with fail
                    go_roundw
                    case rel =>
                      refine ⟨k + 1, by omega, by go_num, by rw [hstep.out]; exact hO8, hb8, Lib.hid fun k' hk' => ?_⟩
                      by_cases e : k' = k
                      · subst e; exact hfc.out
                      · exact hfI.out k' (by omega)
                    case measure => simp [intOf] <;> omega
          · obtain rfl : k = nb := by omega
            go_wp2_with fail
            go_roundw
            case rel =>
              refine ⟨ix + 1, by omega, by go_num, hO, hb, Lib.hid fun i' hi' => ?_⟩
              by_cases e : i' = ix
              · subst e; exact hfI.out
              · exact hfO.out i' (by omega)
            case measure => simp [intOf] <;> omega
      · obtain rfl : ix = na := by omega
        obtain rfl : true = t := (htH.out.1 fun i' hi' k hk => hfO.out i' hi' k hk).symm
        have hPO := Lib.hid (hOP.out ix hfO.out)
        go_wp2_with fail
        refine (hTr.out _ _ _ hO.out hPO.out).mono ?_
        rintro e y1 ⟨u, rfl, hu, rfl⟩
        have huH := Lib.hid hu
        clear hu
        go_wp2_with fail
        go_ret2
        exact ⟨_, rfl, huH.out, hb⟩
  · have hz : (if (b && c && t) = true then tlen (cpO p P (rowL na F) (rowL nb G) nb na) (na + nb) else 0) = 0 := if_neg (fun h => hbc (by cases b <;> cases c <;> simp_all))
    rw [hz]
    have hg : (lcode b c != 0) = true := by cases b <;> cases c <;> simp_all [lcode]
    have he : lcode b c = ccode b c t := by cases b <;> cases c <;> simp_all [lcode, ccode]
    rw [← he]
    clear ha hb hF hG hbb hc hbc hz hP ht he hAL hBL
    go_enter Try.func24, Try.ntmps24
    go_wp2_with fail
    refine H1.out.mono ?_
    rintro e w1 ⟨rfl, hb1⟩
    go_wp2_with fail
    go_ret2
    exact ⟨_, rfl, World.ownsRow_nil _ _ _ _, hb1⟩
end Go.Proofs.Ytionaenmjndncab
