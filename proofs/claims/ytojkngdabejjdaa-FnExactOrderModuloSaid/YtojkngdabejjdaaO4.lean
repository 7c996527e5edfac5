/- Walks: the order, the reference's side. -/
import Derived.Test.YtojkngdabejjdaaO3
set_option linter.unusedVariables false
set_option linter.unusedSimpArgs false
namespace Go.Proofs.Ytojkngdabejjdaa
open Go.RowKit
section
variable {P : Program} {Q : Exit → Act → World → Prop} {o : Oper} {a : Act} {w : World}
theorem wp_quoN (t t' : TypeId) (x y : Operand) (hop : o.op = .binOp .quo t x y t') (A B : Nat) (hx : a.eval x = .int .i64 (A : Int)) (hy : a.eval y = .int .i64 (B : Int)) (hB : 0 < B) (hA : A ≤ 1000000) :
    o.wp P a w (fun a' w' => a' = a.put o.dst (.int .i64 ((A / B : Nat) : Int)) ∧ Below w.heap.size w w') Q := by
  have hd : Int.tdiv (A : Int) (B : Int) = ((A / B : Nat) : Int) := rfl
  have hle := Nat.div_le_self A B
  have hw : IntKind.i64.wrap (Int.tdiv (A : Int) (B : Int)) = ((A / B : Nat) : Int) := by rw [hd, IntKind.wrap_i64]; have h1 := Int.ofNat_le.2 hle; have h2 : 0 ≤ ((A / B : Nat) : Int) := Int.natCast_nonneg _; omega
  have hB0 : ¬ (B : Int) = 0 := by omega
  unfold Oper.wp execOp
  simp only [hop, hx, hy]
  simp only [eqGuard, binOp, Op.intDiv, if_neg hB0, Sem.run_bind, Sem.run_pure, Result.andThen_ok, Bool.not_false, if_true, hw, Oper.upon]
  simp only [ne_eq, not_true, if_false, Sem.run_pure, Result.andThen_ok]
  exact ⟨trivial, Below.refl _ _⟩
end
theorem Ord.uniq {p : Int} {m a : List Int} {x y : Nat} (h : Ord p m a x) (k : Ord p m a y) : x = y := by
  have h1 : ¬ x < y := fun e => k.min x h.one e h.is
  have h2 : ¬ y < x := fun e => h.min y k.one e k.is
  omega
theorem one_dec {p : Int} {D : List Int} (hD : P64 p D) {b : Bool} (h : D = [1] ↔ b = true) {inst : Decidable (∀ i, i < 64 → cf D i = cf [1] i)} : @decide (∀ i, i < 64 → cf D i = cf [1] i) inst = b := by
  refine eq_one_dec hD ?_
  cases b
  · exact decide_eq_false fun e => absurd (h.1 e) (by simp)
  · exact decide_eq_true (h.2 rfl)
set_option maxRecDepth 20000 in
set_option maxHeartbeats 4000000 in
theorem l02Order_any (p : Int) (P : Nat) (xs ms : List Int) (og : Nat) (w : World) (hx : P64 p xs) (hm : P64 p ms) (hP : p = P) (mm : Mc ms) (h2 : 2 ≤ ms.length) (h6 : ms.length ≤ 6) (hu : Uni p (cf ms) (cf xs)) (ho : Ord p ms xs og) :
    Calls Try.prog 9 #[.int .i64 p, .agg (u8s 64 (cf xs)), .agg (u8s 64 (cf ms))] w fun e w' => e = .returned (.int .i64 (og : Int)) ∧ Below w.heap.size w w' := by
  have heu := Lib.hid (fun w => l02Euler_any p P ms w hm hP mm h6)
  have hxH := Lib.hid hx
  have hmH := Lib.hid hm
  have hPH := Lib.hid hP
  have hne := Lib.hid mm.1
  have hoH := Lib.hid ho
  have huH := Lib.hid hu
  have hpo := Lib.hid (fun k => powp_one hx.pr hx.po hm.po h2 k)
  have hpr := Lib.hid hx.pr
  obtain ⟨hb, hA, hB⟩ := boxes2 w (u8s 64 (cf xs)) (u8s 64 (cf ms)) 25 25
  clear hx hm hP mm h2 h6 hu ho
  go_enter Try.func9, Try.ntmps9
  go_wp2_with ((with_reducible refine wpl_guard ?_); first | (refine wpl_load_arr rfl 25 _ rfl _ rfl _ _ hB _ _ uPoly sPoly ?_))
  refine (heu.out _).mono ?_
  rintro e w1 ⟨fs, rfl, hfd, hle, hn⟩
  replace hA := hA.keep hn
  replace hB := hB.keep hn
  replace hb := below_step hb hn
  clear hn
  have hOI : OI og (phi P fs) (phi P fs) 2 := by
    obtain ⟨o2, h1, h3, h4⟩ := hfd.ord hpr.out hPH.out huH.out
    rw [hoH.out.uniq h1]; exact h4
  have hOIH := Lib.hid hOI
  obtain ⟨f0, hf0⟩ : ∃ f, phi P fs = f := ⟨_, rfl⟩
  rw [hf0] at hOIH hle ⊢
  clear heu hfd hOI hf0
  go_wp2_with fail
  go_loopw [7, 8, 9] (fun ov rv qv wr => ∃ (order rest q : Nat), ov = .int .i64 (order : Int) ∧ rv = .int .i64 (rest : Int) ∧ qv = .int .i64 (q : Int) ∧ Hid (OI og order rest q) ∧ order ≤ 16807 ∧ rest ≤ 16807 ∧ q ≤ 16809 ∧ Blk wr w.heap.size (u8s 64 (cf xs)) 25 ∧ Blk wr (w.heap.size + 1) (u8s 64 (cf ms)) 25 ∧ Below w.heap.size w wr) (fun _ _ qv _ => 20000 - (intOf qv).toNat)
  case atStart => exact ⟨f0, f0, 2, rfl, rfl, rfl, hOIH, hle, hle, by omega, hA, hB, hb⟩
  case round =>
    clear hA hB hb hOIH hle
    rename World => w2
    obtain ⟨order, rest, q, rfl, rfl, rfl, hO, hord, hrest, hq, hA, hB, hb⟩ := hrel
    by_cases hqr : q ≤ rest
    · have hqrI : (q : Int) ≤ (rest : Int) := by omega
      have hq8 : q ≤ 16808 := by omega
      clear hqr
      go_wp2_with fail
      clear hqrI
      go_loopw [7, 8] (fun ov rv wr => ∃ (order rest : Nat), ov = .int .i64 (order : Int) ∧ rv = .int .i64 (rest : Int) ∧ Hid (OI og order rest q) ∧ order ≤ 16807 ∧ rest ≤ 16807 ∧ q ≤ 16808 ∧ Blk wr w.heap.size (u8s 64 (cf xs)) 25 ∧ Blk wr (w.heap.size + 1) (u8s 64 (cf ms)) 25 ∧ Below w.heap.size w wr) (fun _ rv _ => (intOf rv).toNat)
      case atStart => exact ⟨order, rest, rfl, rfl, hO, hord, hrest, hq8, hA, hB, hb⟩
      case round =>
        clear hA hB hb hO hord hrest
        clear hq
        rename World => w3
        obtain ⟨order, rest, rfl, rfl, hO, hord, hrest, hq, hA, hB, hb⟩ := hrel
        have hq0 : 0 < q := by have := hO.out.two; omega
        have hq0I : 0 < (q : Int) := by omega
        have hme : (rest : Int) % (q : Int) = ((rest % q : Nat) : Int) := (Int.natCast_emod rest q).symm
        by_cases hdv : q ∣ rest
        · have hz : (rest : Int) % (q : Int) = 0 := by rw [hme, Nat.mod_eq_zero_of_dvd hdv]; rfl
          have hzb : ((rest : Int) % (q : Int) == 0) = true := by rw [beq_iff_eq]; exact hz
          have hqe : (rest : Int) / (q : Int) = ((rest / q : Nat) : Int) := (Int.natCast_ediv rest q).symm
          have hql : rest / q ≤ rest := Nat.div_le_self _ _
          have hq1 : 0 ≤ (rest : Int) / (q : Int) := by rw [hqe]; exact Int.natCast_nonneg _
          have hq2 : (rest : Int) / (q : Int) ≤ 16807 := by rw [hqe]; exact Int.ofNat_le.2 (Nat.le_trans hql hrest)
          have hoe : (order : Int) / (q : Int) = ((order / q : Nat) : Int) := (Int.natCast_ediv order q).symm
          have hol : order / q ≤ order := Nat.div_le_self _ _
          have ho1 : 0 ≤ (order : Int) / (q : Int) := by rw [hoe]; exact Int.natCast_nonneg _
          have ho2 : (order : Int) / (q : Int) ≤ 16807 := by rw [hoe]; exact Int.ofNat_le.2 (Nat.le_trans hol hord)
          have hless := Lib.hid hO.out.less
          have hqeH := Lib.hid hqe
          have hoeH := Lib.hid hoe
          have hq0H := Lib.hid hq0
          have hordH := Lib.hid (by omega : order ≤ 1000000)
          have hdvH := Lib.hid hdv
          have hqlH := Lib.hid hql
          have holH := Lib.hid hol
          have hpm := Lib.hid (fun w => l01PowMod_any xs ms (order / q) p w hxH.out hmH.out hne.out (by have := holH.out; omega))
          obtain ⟨PR, hPRe⟩ : ∃ x, powp p xs (order / q) ms = x := ⟨_, rfl⟩
          have hPR := Lib.hid (⟨hpr.out, hPRe ▸ (powp_Po hpr.out hxH.out.po hmH.out.po hne.out (order / q)).1, by have h1 := (powp_Po hpr.out hxH.out.po hmH.out.po hne.out (order / q)).2; rw [hPRe] at h1; have := hmH.out.le; omega⟩ : P64 p PR)
          have hiff : PR = [1] ↔ og ∣ order / q := by rw [← hPRe]; exact (hpo.out (order / q)).trans (hoH.out.dvd (order / q))
          rw [hPRe] at hpm
          obtain ⟨bR, hbR'⟩ := dec_true (PR = [1])
          have hbR := Lib.hid hbR'
          have hiffH := Lib.hid (hiff.symm.trans hbR')
          have hordK := Lib.hid hord
          have hrestK := Lib.hid hrest
          clear hbR' hPRe hiff hqe hql hoe hol hdv hme hq0 hrest hord
          go_upto_region 8 with (fail)
          refine gen_guard (w := _) (by kernel_rfl) (by kernel_rfl) (by kernel_rfl)
              (fun i => ([fun zv _ => zv = .int .i64 p, fun zv _ => zv = .agg (u8s 64 (cf xs)), fun zv _ => zv = .int .i64 (order : Int), fun zv _ => zv = .int .i64 (q : Int), fun zv _ => zv = .int .i64 ((order / q : Nat) : Int), fun zv _ => zv = .agg (u8s 64 (cf ms)), fun zv _ => zv = .agg (u8s 64 (cf PR)), fun zv _ => zv = .agg (u8s 64 (cf [1])), fun zv _ => zv = .bool bR] : List (Value → World → Prop)).getD i (fun _ _ => True))
              (fun w' => Blk w' (w.heap.size) (u8s 64 (cf xs)) 25 ∧ Blk w' (w.heap.size + 1) (u8s 64 (cf ms)) 25 ∧ True) ⟨hA.drew, hB.drew, trivial⟩ (fun w1 w2 h hb => ⟨h.1.keep hb, h.2.1.keep hb, trivial⟩) ?_ ?_ ?_
          · intro i v w1 w2 h hb
            rcases i with _|_|_|_|_|_|_|_|_|i
            · exact h
            · exact h
            · exact h
            · exact h
            · exact h
            · exact h
            · exact h
            · exact h
            · exact h
            · exact h
          · intro i o ho a w2 hBl hSx hrd hpar
            rcases i with _|_|_|_|_|_|_|_|_|i
            · obtain rfl := Option.some.inj ho
              refine .inl ⟨rfl, ?_⟩
              have e0 : a.eval (.tmp 0) = .int .i64 p := hpar 0 _ (by kernel_rfl) (by kernel_rfl)
              exact wpv_of (wp_move _ _ rfl e0) (fun _ _ => rfl)
            · obtain rfl := Option.some.inj ho
              refine .inl ⟨rfl, ?_⟩
              exact wpv_of (wp_loadB 25 _ rfl _ (hpar 4 (.pointer (some ⟨w.heap.size, 0, none⟩)) (by kernel_rfl) (by kernel_rfl)) _ _ hSx.1 _ _ uPoly sPoly) (fun _ _ => rfl)
            · obtain rfl := Option.some.inj ho
              refine .inl ⟨rfl, ?_⟩
              have e7 : a.eval (.tmp 7) = .int .i64 (order : Int) := hpar 7 _ (by kernel_rfl) (by kernel_rfl)
              exact wpv_of (wp_move _ _ rfl e7) (fun _ _ => rfl)
            · obtain rfl := Option.some.inj ho
              refine .inl ⟨rfl, ?_⟩
              have e9 : a.eval (.tmp 9) = .int .i64 (q : Int) := hpar 9 _ (by kernel_rfl) (by kernel_rfl)
              exact wpv_of (wp_move _ _ rfl e9) (fun _ _ => rfl)
            · obtain rfl := Option.some.inj ho
              refine .inl ⟨rfl, ?_⟩
              have e28 : a.eval (.tmp 28) = .int .i64 (order : Int) := hrd 2 _ 28 rfl rfl (by kernel_rfl) (by kernel_rfl)
              have e29 : a.eval (.tmp 29) = .int .i64 (q : Int) := hrd 3 _ 29 rfl rfl (by kernel_rfl) (by kernel_rfl)
              exact wpv_of (wp_quoN _ _ _ _ rfl order q e28 e29 hq0H.out hordH.out) (fun _ _ => rfl)
            · obtain rfl := Option.some.inj ho
              refine .inl ⟨rfl, ?_⟩
              exact wpv_of (wp_loadB 25 _ rfl _ (hpar 5 (.pointer (some ⟨w.heap.size + 1, 0, none⟩)) (by kernel_rfl) (by kernel_rfl)) _ _ hSx.2.1 _ _ uPoly sPoly) (fun _ _ => rfl)
            · obtain rfl := Option.some.inj ho
              refine .inl ⟨rfl, ?_⟩
              have e26 : a.eval (.tmp 26) = .int .i64 p := hrd 0 _ 26 rfl rfl (by kernel_rfl) (by kernel_rfl)
              have e27 : a.eval (.tmp 27) = .agg (u8s 64 (cf xs)) := hrd 1 _ 27 rfl rfl (by kernel_rfl) (by kernel_rfl)
              have e30 : a.eval (.tmp 30) = .int .i64 ((order / q : Nat) : Int) := hrd 4 _ 30 rfl rfl (by kernel_rfl) (by kernel_rfl)
              have e31 : a.eval (.tmp 31) = .agg (u8s 64 (cf ms)) := hrd 5 _ 31 rfl rfl (by kernel_rfl) (by kernel_rfl)
              exact wpv_call 22 [.tmp 26, .tmp 27, .tmp 30, .tmp 31] _ rfl [.int .i64 p, .agg (u8s 64 (cf xs)), .int .i64 ((order / q : Nat) : Int), .agg (u8s 64 (cf ms))] (by simp only [List.map_cons, List.map_nil, e26, e27, e30, e31]) Try.call22 ((hpm.out w2).mono fun _ _ ⟨h1, h2⟩ => ⟨_, h1, rfl, h2⟩)
            · obtain rfl := Option.some.inj ho
              refine .inl ⟨rfl, ?_⟩
              exact wpv_call 20 [] _ rfl [] (by simp only [List.map_cons, List.map_nil, ]) Try.call20 ((l01One_any w2).mono fun _ _ ⟨h1, h2⟩ => ⟨_, h1, rfl, h2⟩)
            · obtain rfl := Option.some.inj ho
              refine .inl ⟨rfl, ?_⟩
              have e32 : a.eval (.tmp 32) = .agg (u8s 64 (cf PR)) := hrd 6 _ 32 rfl rfl (by kernel_rfl) (by kernel_rfl)
              have e33 : a.eval (.tmp 33) = .agg (u8s 64 (cf [1])) := hrd 7 _ 33 rfl rfl (by kernel_rfl) (by kernel_rfl)
              exact wpv_of (wp_eql_arrB 25 _ _ _ rfl 64 .u8 (cf PR) (cf [1]) 5 e32 e33 uPoly uByte sByte gPoly bR (one_dec hPR.out hbR.out)) (fun _ _ => rfl)
            · simp at ho
          intro vals xE hBx hSx hc0
          have e0 : vals 0 = .int .i64 p := hc0 0 (by simp)
          have e1 : vals 1 = .agg (u8s 64 (cf xs)) := hc0 1 (by simp)
          have e2 : vals 2 = .int .i64 (order : Int) := hc0 2 (by simp)
          have e3 : vals 3 = .int .i64 (q : Int) := hc0 3 (by simp)
          have e4 : vals 4 = .int .i64 ((order / q : Nat) : Int) := hc0 4 (by simp)
          have e5 : vals 5 = .agg (u8s 64 (cf ms)) := hc0 5 (by simp)
          have e6 : vals 6 = .agg (u8s 64 (cf PR)) := hc0 6 (by simp)
          have e7 : vals 7 = .agg (u8s 64 (cf [1])) := hc0 7 (by simp)
          have e8 : vals 8 = .bool bR := hc0 8 (by simp)
          simp only [List.length_cons, List.length_nil, Nat.zero_add, Nat.reduceAdd, List.replicate, putAll, if_true, Act.put, List.setIfInBounds_toArray, List.set_cons_zero, List.set_cons_succ, e0, e1, e2, e3, e4, e5, e6, e7, e8]
          replace hA := hSx.1
          replace hB := hSx.2.1
          clear hc0 hSx e0 e1 e2 e3 e4 e5 e6 e7 e8
          replace hb := below_step hb hBx
          clear hBx
          cases bR
          · have hOn := Lib.hid (hO.out.not hdvH.out (fun h => absurd (hiffH.out.1 h) (by simp)))
            go_wp2_with fail
            go_roundw
            case rel => exact ⟨order, rest / q, rfl, by rw [hqeH.out], hOn, by have := hordK.out; omega, by have := hqlH.out; have := hrestK.out; omega, by omega, hA, hB, hb⟩
            case measure => have := hless.out; rw [hqeH.out]; simp [intOf] <;> omega
          · have hOn := Lib.hid (hO.out.yes hdvH.out (hiffH.out.2 rfl))
            go_wp2_with fail
            go_roundw
            case rel => exact ⟨order / q, rest / q, by rw [hoeH.out], by rw [hqeH.out], hOn, by have := holH.out; have := hordK.out; omega, by have := hqlH.out; have := hrestK.out; omega, by omega, hA, hB, hb⟩
            case measure => have := hless.out; rw [hqeH.out]; simp [intOf] <;> omega
        · have hz : ¬ (rest : Int) % (q : Int) = 0 := by rw [hme]; intro h; exact hdv (Nat.dvd_of_mod_eq_zero (by omega))
          have hzb : ((rest : Int) % (q : Int) == 0) = false := by rw [beq_eq_false_iff_ne]; exact hz
          have hOn := Lib.hid (hO.out.next hdv)
          clear hme
          go_wp2_with fail
          go_roundw
          case rel => exact ⟨order, rest, q + 1, rfl, rfl, by go_num, hOn, hord, hrest, by omega, hA, hB, hb⟩
          case measure => simp [intOf] <;> omega
    · have hqrI : ¬ (q : Int) ≤ (rest : Int) := by omega
      have hfin := Lib.hid (hO.out.done (by omega))
      clear hqr
      go_wp2_with fail
      go_ret
      exact ⟨by rw [hfin.out]; rfl, hb⟩
end Go.Proofs.Ytojkngdabejjdaa
