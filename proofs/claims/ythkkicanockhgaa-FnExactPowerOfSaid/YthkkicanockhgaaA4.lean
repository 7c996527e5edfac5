/- Walks: division of rows. -/
import Derived.Test.YthkkicanockhgaaA3
namespace Go.Proofs.Ythkkicanockhgaa
open Go.RowKit

theorem map_cf_self (xs : List Int) : (List.range xs.length).map (cf xs) = xs := by
  apply List.ext_getElem (by simp)
  intro i h1 h2
  rw [List.getElem_map, List.getElem_range, cf_lt xs i h2]
theorem mkp_self {xs : List Int} (h : Tr xs) : mkp xs.length (cf xs) = xs := by
  unfold mkp; rw [map_cf_self, trim_of_Tr h]

/-- The lists of a division. -/
theorem divp_fst (p : Int) (xs ys : List Int) : mkp (xs.length - (ys.length - 1)) (dquot p (invp p (cf ys (ys.length - 1))) ys (xs.length - (ys.length - 1)) (cf xs)) = (divp p xs ys).1 := rfl
theorem divp_snd (p : Int) (xs ys : List Int) : mkp xs.length (drest p (invp p (cf ys (ys.length - 1))) ys (xs.length - (ys.length - 1)) (cf xs)) = (divp p xs ys).2 := rfl
theorem divp_short {p : Int} {xs ys : List Int} (hx : Tr xs) (h : xs.length < ys.length) : (divp p xs ys).1 = [] ∧ (divp p xs ys).2 = xs := by
  rw [← divp_fst, ← divp_snd, show xs.length - (ys.length - 1) = 0 by omega]
  exact ⟨rfl, mkp_self hx⟩

set_option maxHeartbeats 2000000 in
theorem divide_any (va vb : Value) (xs ys : List Int) (p : Int) (w : World) (hp : Pr p) (ha : IsRow w va xs) (hb : IsRow w vb ys) (hxa : Po p xs) (hxb : Po p ys) (hne : ys ≠ [])
    (la : xs.length ≤ 1000) (lb : ys.length ≤ 1000) :
    Calls Try.prog 60 #[.int .i64 p, va, vb] w fun e w' => ∃ v1 v2, e = .returned (.tuple #[v1, v2]) ∧ IsRow w' v1 (divp p xs ys).1 ∧ IsRow w' v2 (divp p xs ys).2 ∧ Below w.heap.size w w' := by
  have hp1 := hp.pos.1
  have hp2 := hp.pos.2
  have hpz : (p == 0) = false := by rw [beq_eq_false_iff_ne]; omega
  have hpH := Lib.hid hp
  have hLY : 0 < ys.length := List.length_pos_iff.2 hne
  have hl := Lib.hid (hxb.lead hne)
  have hl2 := Lib.hid ((hxb.md (ys.length - 1)).2)
  have hyH := Lib.hid (fun i => cf_lt7 hp hxb.md i)
  have hIn := Lib.hid (show In p (cf xs) from hxa.md)
  have haH := Lib.hid ha
  have hbH := Lib.hid hb
  have hcl := Lib.hid (cloneRow_any va xs w ha la)
  obtain ⟨oa, ca, rfl, hlea, _, _⟩ := ha
  obtain ⟨ob, cb, rfl, hleb, _, hcb⟩ := hb
  obtain ⟨b2, off2, rfl, hc2⟩ := hcb hLY
  have hc2H := Lib.hid hc2
  have hltb := block_lt_of_cell (hc2 0 (by omega))
  clear hcb hc2
  by_cases hsh : xs.length < ys.length
  · have hd := Lib.hid (divp_short (p := p) hxa.tr hsh)
    clear hp hxa hxb hne
    go_enter Try.func60, Try.ntmps60
    go_wp2_with fail
    refine hcl.out.mono ?_
    rintro e w1 ⟨v', rfl, hown, hb1⟩
    have hrow := IsRow_owned hown
    rw [map_cf_self] at hrow
    have hrowH := Lib.hid hrow
    clear hown hrow
    go_wp2_with fail
    go_ret2
    exact ⟨_, _, rfl, by rw [hd.out.1]; exact IsRow_nil _, by rw [hd.out.2]; exact hrowH.out, hb1⟩
  · have d1 := divp_fst p xs ys
    have d2 := divp_snd p xs ys
    have hix : ∃ K L, xs.length - (ys.length - 1) = K ∧ ys.length = L + 1 ∧ xs.length + 1 = K + (L + 1) := ⟨_, ys.length - 1, rfl, by omega, by omega⟩
    obtain ⟨K, L, hK, hL, hKL⟩ := hix
    rw [hK] at d1 d2
    have hd1 := Lib.hid d1
    have hd2 := Lib.hid d2
    clear hp hxa hxb hne d1 d2 hK
    have hinv := Lib.hid (invp_spec hpH.out hl.out hl2.out)
    have hKe : ((xs.length : Int)) - (ys.length : Int) + 1 = (K : Int) := by omega
    have hKeH := Lib.hid hKe
    have hin := hinv.out
    have hi0 := hin.1
    have hi1 := hin.2.1
    have hLH := Lib.hid hL
    have hKLH := Lib.hid hKL
    have hKl : K ≤ 1000 := by omega
    clear hin hKe hL hKL
    generalize hiv : invp p (cf ys (ys.length - 1)) = inv at *
    have hivH := Lib.hid hiv
    clear hiv
    go_enter Try.func60, Try.ntmps60
    go_wp2_with fail
    refine hcl.out.mono ?_
    rintro e w1 ⟨v', rfl, hown, hb1⟩
    obtain ⟨g, cap, rfl, hg, hcap1, hcap2, hW⟩ := WRow_owned hown (by omega)
    have hbr := Lib.hid (hbH.out.below (below_step hb1 (below_new w1 (.cells (arr K fun _ => .int .i64 0) 2))))
    have hWH := Lib.hid (hW.below (below_new w1 (.cells (arr K fun _ => .int .i64 0) 2)) hW.lt)
    have hB := below_step hb1 (below_new w1 (.cells (arr K fun _ => .int .i64 0) 2))
    have hgl := hW.lt
    have hws := hb1.size
    clear hown hW
    go_wp2_with (at_make; refine wpl_make_one rfl 49 2 _ _ rfl (.int .i64 0) Try.underlying49 iInt rfl .i64 .i64 _ _ K rfl rfl hKeH.out hKeH.out (by omega) ?_)
    refine (lead_any _ ys _ hbr.out).mono ?_
    rintro e w2 ⟨rfl, rfl⟩
    go_wp2_with fail
    refine (inverse_any p _ _ hpH.out (by have := hl.out; omega) hl2.out).mono ?_
    rintro e w2 ⟨rfl, rfl⟩
    rw [hivH.out]
    go_wp2_with fail
    go_loopw [11] (fun i wr => ∃ (k : Nat) (R : Nat → Int) (qv : Nat → Int), k ≤ K ∧ i = .int .i64 ((k : Int) - 1) ∧ In p R ∧ drest p inv ys K (cf xs) = drest p inv ys k R ∧
      (∀ j, dquot p inv ys K (cf xs) j = if k ≤ j then qv j else dquot p inv ys k R j) ∧ WRow wr g xs.length R ∧ Blk wr w1.heap.size (i64s K (fun j => if k ≤ j then qv j else 0)) 2 ∧ Below w.heap.size w wr) (fun i _ => (intOf i + 1).toNat)
    case atStart =>
      refine ⟨K, cf xs, fun _ => 0, Nat.le_refl _, rfl, hIn.out, rfl, fun j => ?_, hWH.out, (Blk.new w1 _ _).cast (arr_ext fun j hj => by simp), hB⟩
      by_cases hj : K ≤ j
      · rw [if_pos hj, dquot_ge _ _ _ _ _ _ hj]
      · rw [if_neg hj]
    case round =>
      obtain ⟨k, R, qv, hk, hi, hR, hdr, hdq, hW, hQ, hb⟩ := hrel
      have hRH := Lib.hid hR
      have hdrH := Lib.hid hdr
      have hdqH := Lib.hid hdq
      clear hR hdr hdq
      by_cases h0 : k = 0
      · subst h0
        simp only [Int.natCast_zero, Int.zero_sub] at hi
        subst hi
        have hqrow : IsRow wr (.slice (some ⟨w1.heap.size, 0, none⟩) K K) ((List.range K).map (dquot p inv ys K (cf xs))) := by
          have hlen : ((List.range K).map (dquot p inv ys K (cf xs))).length = K := by rw [List.length_map, List.length_range]
          refine ⟨some ⟨w1.heap.size, 0, none⟩, K, by rw [hlen], by omega, by unfold maxLen; omega, fun _ => ⟨_, 0, rfl, fun i hi => ?_⟩⟩
          rw [hlen] at hi
          rw [hQ.cell, Nat.zero_add, i64s_get _ hi, cf_map_range, if_pos hi, if_pos (Nat.zero_le _), hdqH.out i, if_pos (Nat.zero_le _)]
        have hqH := Lib.hid hqrow
        have hrrow := Lib.hid (hW.row hcap1 hcap2)
        clear hqrow
        go_wp2_with fail
        refine (trimmed_any _ _ _ hqH.out).mono ?_
        rintro e w2 ⟨v1, rfl, hr1, rfl⟩
        have hr1H := Lib.hid hr1
        clear hr1
        go_wp2_with fail
        refine (trimmed_any _ _ _ hrrow.out).mono ?_
        rintro e w2 ⟨v2, rfl, hr2, rfl⟩
        have hr2H := Lib.hid hr2
        clear hr2
        go_wp2_with fail
        go_ret2
        refine ⟨_, _, rfl, by rw [← hd1.out]; exact hr1H.out, ?_, hb⟩
        rw [← hd2.out, hdrH.out]; exact hr2H.out
      · obtain ⟨m, rfl⟩ : ∃ m, k = m + 1 := ⟨k - 1, by omega⟩
        rw [show (((m + 1 : Nat) : Int) - 1) = (m : Int) by omega] at hi
        subst hi
        have hL := hLH.out
        have hKL := hKLH.out
        have c0 := hW.cell (m + L) (by omega)
        have hie : ((m : Int) + (ys.length : Int) - 1) = ((m + L : Nat) : Int) := by omega
        have hlti : (m : Int) + (L : Int) < (xs.length : Int) := by omega
        have hRt := hRH.out (m + L)
        have ht := term_bound hRt.1 (by omega) (show 0 ≤ inv by omega) (by omega)
        have ht0 := ht.1
        have ht1 := ht.2
        have cq : wr.cell? ⟨w1.heap.size, m, none⟩ = some (.int .i64 0) := by rw [hQ.cell, i64s_get _ (by omega), if_neg (by omega)]
        have cqf := hQ.free m
        have hqb := mulmod_bound (p := p) (x := R (m + L)) (y := inv) (by omega)
        clear hL hKL hRt ht
        have hq0 := hqb.1
        have hq1 := hqb.2
        clear hqb
        go_wp2_with fail
        generalize hqq : R (m + L) * inv % p = q at *
        have hqH := Lib.hid hqq
        clear hqq
        have hW1 := (hW.set_other ⟨w1.heap.size, m, none⟩ (.int .i64 q) (by simp; omega)).ext (R' := dpart p q ys m 0 R) (fun i _ => by rw [dpart_zero])
        have hQ1 := (hQ.set m (.int .i64 q)).cast (cs' := i64s K (fun j => if m ≤ j then (if j = m then q else qv j) else 0)) (by
          rw [i64s_set]; apply i64s_ext; intro j _
          by_cases e1 : j = m
          · subst e1; simp
          · by_cases e2 : m ≤ j
            · simp [e1, e2, show m + 1 ≤ j by omega]
            · simp [e1, e2, show ¬ m + 1 ≤ j by omega])
        have hb2 : Below w.heap.size w (wr.setCell ⟨w1.heap.size, m, none⟩ (.int .i64 q)) := hb.setCell (by simp; omega) _
        clear hW hQ hb c0 cq cqf
        go_loopw [59] (fun i wr => ∃ j : Nat, j ≤ ys.length ∧ i = .int .i64 j ∧ WRow wr g xs.length (dpart p q ys m j R) ∧ Blk wr w1.heap.size (i64s K (fun j => if m ≤ j then (if j = m then q else qv j) else 0)) 2 ∧ Below w.heap.size w wr) (fun i _ => ys.length - (intOf i).toNat)
        case atStart => exact ⟨0, by omega, rfl, hW1, hQ1, hb2⟩
        case round =>
          clear hW1 hQ1 hb2
          obtain ⟨j, hj, rfl, hW, hQ, hb⟩ := hrel
          by_cases hlt : j < ys.length
          · have hjL : m + j < xs.length := by have := hLH.out; have := hKLH.out; omega
            have c1 : wr.cell? ⟨b2, off2 + j, none⟩ = some (.int .i64 (cf ys j)) := by rw [hb.cell hltb]; exact hc2H.out j hlt
            have c2 := hW.cell (m + j) hjL
            rw [dpart_at] at c2
            have c3 := hW.free (m + j)
            have hy := hyH.out j
            have hRt := hRH.out (m + j)
            have ht := term_bound (show 0 ≤ q by omega) (show q ≤ 6 by omega) hy.1 hy.2
            have ht0 := ht.1
            have ht1 := ht.2
            have hr0 := hRt.1
            have hr1 := hRt.2
            clear hy hRt ht
            go_wp2_with fail
            refine (reduce_any p _ _ hpH.out (by omega) (by omega)).mono ?_
            rintro e w2 ⟨rfl, rfl⟩
            go_wp2_with fail
            go_roundw
            case rel =>
              refine ⟨j + 1, by omega, by go_num, ?_, hQ.set_other _ _ (by simp; omega), hb.setCell (by simp; omega) _⟩
              refine (hW.set (m + j) _).ext fun i _ => ?_
              rw [dpart_step]
              by_cases e1 : i = m + j
              · subst e1; simp
              · simp [e1]
            case measure => simp [intOf] <;> omega
          · obtain rfl : j = ys.length := by omega
            have hst : dpart p q ys m ys.length R = dstep p inv ys m R := by rw [← hqH.out, ← dpart_all, hLH.out]; rfl
            rw [hst] at hW
            have hR2 := dstep_In (p := p) (inv := inv) (b := ys) (i := m) (by omega) hRH.out
            have hdr2 : drest p inv ys K (cf xs) = drest p inv ys m (dstep p inv ys m R) := hdrH.out
            have hdq2 : ∀ j, dquot p inv ys K (cf xs) j = if m ≤ j then (if j = m then q else qv j) else dquot p inv ys m (dstep p inv ys m R) j := by
              intro i
              rw [hdqH.out i]
              by_cases h1 : m + 1 ≤ i
              · rw [if_pos h1, if_pos (by omega), if_neg (by omega)]
              · rw [if_neg h1]
                show (if i = m then R (m + (ys.length - 1)) * inv % p else dquot p inv ys m (dstep p inv ys m R) i) = _
                by_cases h2 : i = m
                · rw [if_pos h2, if_pos (by omega), if_pos h2, ← hqH.out, hLH.out]; rfl
                · rw [if_neg h2, if_neg (by omega)]
            have H := Lib.hid (And.intro hR2 (And.intro hdr2 hdq2))
            clear hR2 hdr2 hdq2 hst
            go_wp2_with fail
            go_roundw
            case rel => exact ⟨m, _, _, by omega, by go_num, H.out.1, H.out.2.1, H.out.2.2, hW, hQ, hb⟩
            case measure => simp [intOf] <;> omega
end Go.Proofs.Ythkkicanockhgaa
