/- Walks: the reference's splitting. -/
import Derived.Test.YtojkngdabejjdaaO1
set_option linter.unusedVariables false
set_option linter.unusedSimpArgs false
namespace Go.Proofs.Ytojkngdabejjdaa
open Go.RowKit
theorem zero_dec {p : Int} {R : List Int} (hR : Po p R) (hl : R.length ≤ 64) {b : Bool} (hb : (R = []) ↔ b = true) {inst : Decidable (∀ i, i < 64 → cf R i = (fun _ => (0 : Int)) i)} : @decide (∀ i, i < 64 → cf R i = (fun _ => (0 : Int)) i) inst = b := by
  by_cases h : R = []
  · rw [hb.1 h]; exact decide_eq_true fun i _ => by rw [h]; exact cf_nil i
  · have hbf : b = false := by
      cases b
      · rfl
      · exact absurd (hb.2 rfl) h
    rw [hbf]
    refine decide_eq_false fun e => ?_
    have h1 := hR.lead h
    have h2 := List.length_pos_iff.2 h
    have h3 : cf R (R.length - 1) = 0 := e (R.length - 1) (by omega)
    omega
theorem grown_rowF (w : World) (g : Nat) (cs : Array Value) : w.grownBy (w.setRow g cs) (some g) := ⟨rfl, rfl, rfl, by simp, fun k _ hk => setRow_other w g k cs (fun e => hk (by rw [e]))⟩
section
variable {P : Program} {Q : Exit → Act → World → Prop} {o : Oper} {a : Act} {w : World}
theorem wp_eql_arrB (t t' : TypeId) (x y : Operand) (hop : o.op = .binOp .eql t x y t') (n : Nat) (k : IntKind) (f g : Nat → Int) (e : TypeId)
    (hx : a.eval x = .agg (arr n fun i => .int k (f i))) (hy : a.eval y = .agg (arr n fun i => .int k (g i)))
    (ht : P.underlying t = some (.array n e)) (he : P.underlying e = some (.int k)) (hs : (P.info? e).map (·.size) = some 1) (hm : P.eqGuardType P.depth t = false)
    (b : Bool) (hb : decide (∀ i, i < n → f i = g i) = b) : o.wp P a w (fun a' w' => a' = a.put o.dst (.bool b) ∧ Below w.heap.size w w') Q := by
  have h1 := run_equal_arr (P := P) (w := w) 9998 t e k n f g ht he hs
  have h2 := run_eqGuard_agg (P := P) w .eql t x y (arr n fun i => .int k (f i)) (arr n fun i => .int k (g i)) hm
  unfold Oper.wp execOp
  simp only [hop, hx, hy, Sem.run_bind, h2, Result.andThen_ok, run_eql_struct, h1, hb]
  exact ⟨rfl, Below.refl _ _⟩
end
theorem invp_at1 {p : Int} (hp : Pr p) : invp p 1 = 1 := ((invp_only hp (by omega) (by have := hp.pos; omega) (by omega) (by have := hp.pos; omega)).1 (by rw [Int.one_mul]; exact Int.emod_eq_of_lt (by omega) (by have := hp.pos; omega))).symm
theorem addp_void {p : Int} (hp : Pr p) {a : List Int} (ha : Po p a) : addp p [] a 1 = a := (addp_Po (by have := hp.pos; omega) _ _ _).ext ha fun i => by
  rw [addp_cf, cf_nil, Int.zero_add, Int.one_mul]; exact Int.emod_eq_of_lt (ha.md i).1 (ha.md i).2
theorem ne_dec {p : Int} {A B : List Int} (hA : P64 p A) (hB : P64 p B) (h : A ≠ B) {inst : Decidable (∀ i, i < 64 → cf A i = cf B i)} : @decide (∀ i, i < 64 → cf A i = cf B i) inst = false := decide_eq_false fun e => h (hA.po.ext hB.po fun i => by
  by_cases hi : i < 64
  · exact e i hi
  · rw [cf_ge A i (by have := hA.le; omega), cf_ge B i (by have := hB.le; omega)])
theorem fField0 : fieldB Try.prog 58 0 0 64 = true := by kernel_rfl
theorem fField1 : fieldB Try.prog 58 1 64 1 = true := by kernel_rfl
/-- Between the rounds of the search for a degree. -/
def SplX (p : Int) (P : Nat) (m : List Int) (fs : Fs) (a : List Int) (n : Nat) : Prop := ∃ n' k', Spl p P m fs a n' k' ∧ ((n' = n ∧ k' = P ^ n) ∨ (n' < n ∧ a.length - 1 < 2 * n'))
theorem Spl.len {p : Int} {P : Nat} {m a : List Int} {fs : Fs} {n k : Nat} (h : Spl p P m fs a n k) : 1 ≤ a.length ∧ a.length - 1 ≤ m.length - 1 := ⟨List.length_pos_iff.2 h.ma.1, by have := h.deg; omega⟩
theorem dsum_len {p : Int} : ∀ fs : Fs, (∀ x ∈ fs, Irr p x.1 ∧ 1 ≤ x.2) → fs.length ≤ dsum fs
  | [], _ => Nat.zero_le _
  | x :: l, h => by
    have h1 := dsum_len l fun y hy => h y (List.mem_cons_of_mem _ hy)
    obtain ⟨h2, h3⟩ := h x (List.mem_cons_self ..)
    have h4 := h2.deg
    have h5 : 1 * 1 ≤ x.2 * (x.1.length - 1) := Nat.mul_le_mul h3 (by omega)
    show l.length + 1 ≤ x.2 * (x.1.length - 1) + dsum l
    omega
theorem dsum_mem {p : Int} : ∀ {fs : Fs} {x : List Int × Nat}, x ∈ fs → 1 ≤ x.2 → x.1.length - 1 ≤ dsum fs
  | y :: l, x, hx, h1 => by
    show x.1.length - 1 ≤ y.2 * (y.1.length - 1) + dsum l
    rcases List.mem_cons.1 hx with rfl | hx
    · have := Nat.mul_le_mul_right (x.1.length - 1) h1
      omega
    · have := dsum_mem (p := p) hx h1
      omega
theorem Spl.flen {p : Int} {P : Nat} {m a : List Int} {fs : Fs} {n k : Nat} (h : Spl p P m fs a n k) : fs.length ≤ m.length := by
  have := dsum_len fs fun x hx => ⟨(h.irr x hx).1, (h.irr x hx).2.1⟩
  have := h.deg
  omega
set_option maxRecDepth 20000 in
set_option maxHeartbeats 3000000 in
theorem l02Split_any (p : Int) (P : Nat) (m : List Int) (w : World) (hx : P64 p m) (hP : p = P) (mm : Mc m) (h6 : m.length ≤ 6) :
    Calls Try.prog 32 #[.int .i64 p, .agg (u8s 64 (cf m))] w fun e w' => ∃ v fs, e = .returned v ∧ FcL 58 w' w.heap.size v fs ∧ Facd p m fs ∧ Below w.heap.size w w' := by
  have hpr := Lib.hid hx.pr
  have hp2 := hx.pr.pos
  have hPH := Lib.hid hP
  have hspl0 := Lib.hid (Spl.start (P := P) hx.po mm)
  have h6H := Lib.hid h6
  have hno7 := Lib.hid (fun n (hn : n ≤ 3) => (by
    have h1 := ipow_le7 hx.pr n
    have h2 : (7 : Int) ^ n ≤ 7 ^ 3 := ipow_mono (by omega) hn
    have h3 : (7 : Int) ^ 3 = 343 := by decide
    omega : p ^ n ≤ 343))
  obtain ⟨hb, hA⟩ := boxes1 w (u8s 64 (cf m)) 25
  have hF0 := FcL.void (w.alloc (.cells (u8s 64 (cf m)) 25)) 58
  have hF1 := hF0.mono (B' := w.heap.size + 1) (by simp)
  rw [show (w.alloc (.cells (u8s 64 (cf m)) 25)).heap.size = w.heap.size + 1 by simp] at hF1
  have hF := Lib.hid hF1
  have hn := below_new (w.alloc (.cells (u8s 64 (cf m)) 25)) (.cells #[] 58)
  have hg0 : w.heap.size < ((w.alloc (.cells (u8s 64 (cf m)) 25)).alloc (.cells #[] 58)).heap.size := by simp; omega
  replace hA := hA.keep hn
  replace hb := Lib.hid (below_step hb hn)
  have hs1 : (w.alloc (.cells (u8s 64 (cf m)) 25)).heap.size = w.heap.size + 1 := by simp
  clear hx mm h6 hP hF0 hF1 hn
  go_enter Try.func32, Try.ntmps32
  go_wp2_with ((with_reducible refine wpl_guard ?_); first | (refine wpl_buildSlice_voidB rfl 54 58 65 rfl uFsF sFsF zFsF ?_))
  go_loopw [5, 6, 7, 8, 9, 10, 11] (fun v5 nv _ _ _ _ _ wr => ∃ (n : Nat) (fs : Fs) (a : List Int), nv = .int .i64 (n : Int) ∧ 1 ≤ n ∧ n ≤ 3 ∧ Hid (SplX p P m fs a n) ∧ Hid (FcL 58 wr (w.heap.size + 1) v5 fs) ∧ Blk wr w.heap.size (u8s 64 (cf a)) 25 ∧ w.heap.size < wr.heap.size ∧ Hid (Below w.heap.size w wr)) (fun _ nv _ _ _ _ _ _ => 4 - (intOf nv).toNat)
  case atStart => exact ⟨1, [], m, rfl, by omega, by omega, Lib.hid ⟨1, P ^ 1, hspl0.out, .inl ⟨rfl, rfl⟩⟩, hF, hA, hg0, hb⟩
  case round =>
    clear hA hF hb hg0 hs1 hspl0
    rename World => w0
    obtain ⟨n, fs, a, rfl, hn1, hn3, hS, hF, hA, hg0, hb⟩ := hrel
    obtain ⟨n', k', hSp, hor⟩ := hS.out
    have hal := hSp.len
    have h66 := h6H.out
    have hSpH := Lib.hid hSp
    have horH := Lib.hid hor
    have hdg := Lib.hid (fun w => l01Deg_list p a w ⟨hpr.out, hSp.pa, by omega⟩)
    have hane := hSp.ma.1
    obtain ⟨L, hL⟩ : ∃ L, a.length = L := ⟨_, rfl⟩
    rw [hL] at hdg hal
    have hLH := Lib.hid hL
    have hL6 : L ≤ 6 := by omega
    clear hSp hor hane hL h66
    go_wp2_with ((with_reducible refine wpl_guard ?_); first | (refine wpl_load_arr rfl 25 _ rfl _ rfl _ _ hA _ _ uPoly sPoly ?_))
    refine (hdg.out _).mono ?_
    rintro e w1 ⟨rfl, hn⟩
    replace hA := hA.keep hn
    replace hF := Lib.hid (hF.out.below hn)
    replace hb := Lib.hid (below_step hb.out hn)
    have hsn := hn.size
    replace hg0 : w.heap.size < _ := Nat.lt_of_lt_of_le hg0 hsn
    clear hn hsn
    clear hdg
    by_cases hc : 2 * n + 1 ≤ L
    · have hcI : 2 * (n : Int) ≤ (L : Int) - 1 := by omega
      have hn2 : n ≤ 2 := by omega
      have hSn : Spl p P m fs a n (P ^ n) := by
        rcases horH.out with ⟨e1, e2⟩ | ⟨e1, e2⟩
        · have := hSpH.out; rw [e1, e2] at this; exact this
        · have := hLH.out; omega
      obtain ⟨C, hC⟩ : ∃ C, P ^ n = C := ⟨_, rfl⟩
      have hCI : p ^ n = (C : Int) := by rw [hPH.out, ← hC]; exact (Int.natCast_pow P n).symm
      have hC343 : C ≤ 343 := by have := hno7.out n hn3; omega
      have hct := fun w => l01Count_any p n w hp2.1 (by have := hno7.out n hn3; omega) (by omega)
      rw [hCI] at hct
      rw [hC] at hSn
      have hctH := Lib.hid hct
      have hSnH := Lib.hid hSn
      have hCH := Lib.hid hC
      clear hct hSn hC hCI hSpH horH
      go_wp2_with fail
      refine (hctH.out _).mono ?_
      rintro e w2 ⟨rfl, rfl⟩
      go_wp2_with fail
      go_loopw [5, 7, 8, 9, 10, 11] (fun v5 kv _ _ _ _ wr => ∃ (k : Nat) (fs : Fs) (a : List Int), kv = .int .i64 (k : Int) ∧ C ≤ k ∧ k ≤ 2 * C ∧ Hid (Spl p P m fs a n k) ∧ Hid (FcL 58 wr (w.heap.size + 1) v5 fs) ∧ Blk wr w.heap.size (u8s 64 (cf a)) 25 ∧ w.heap.size < wr.heap.size ∧ Hid (Below w.heap.size w wr)) (fun _ kv _ _ _ _ _ => 2 * C - (intOf kv).toNat)
      case atStart => exact ⟨C, fs, a, rfl, by omega, by omega, hSnH, hF, hA, hg0, hb⟩
      case round =>
        clear hF hA hg0 hb hSnH hLH hL6 hal hcI hc

        rename World => w3
        obtain ⟨k, fs, a, rfl, hk1, hk2, hS, hF, hA, hg0, hb⟩ := hrel
        have hal := hS.out.len
        have h66 := h6H.out
        have hdg := Lib.hid (fun w => l01Deg_list p a w ⟨hpr.out, hS.out.pa, by omega⟩)
        obtain ⟨L, hL⟩ : ∃ L, a.length = L := ⟨_, rfl⟩
        rw [hL] at hdg hal
        have hLH := Lib.hid hL
        have hL6 : L ≤ 6 := by omega
        clear hL h66
        go_wp2_with fail
        refine (hctH.out _).mono ?_
        rintro e w4 ⟨rfl, rfl⟩
        by_cases hk : k < 2 * C
        · have hkI : (k : Int) < 2 * (C : Int) := by omega
          go_wp2_with ((with_reducible refine wpl_guard ?_); first | (refine wpl_load_arr rfl 25 _ rfl _ rfl _ _ hA _ _ uPoly sPoly ?_))
          refine (hdg.out _).mono ?_
          rintro e w5 ⟨rfl, hn⟩
          replace hA := hA.keep hn
          replace hF := Lib.hid (hF.out.below hn)
          replace hb := Lib.hid (below_step hb.out hn)
          have hsn := hn.size
          replace hg0 : w.heap.size < _ := Nat.lt_of_lt_of_le hg0 hsn
          clear hn hsn
          clear hdg
          by_cases hc : 2 * n + 1 ≤ L
          · have hcI : 2 * (n : Int) ≤ (L : Int) - 1 := by omega
            have hMM := npl_mon (P := P) (n := n) (k := k) (by have := hPH.out; omega) (by omega) (by rw [hCH.out]; exact hk1) (by rw [hCH.out]; exact hk)
            have hMc := npl_Mon (P := P) (n := n) (k := k) (by have := hPH.out; omega) (by omega) (by rw [hCH.out]; exact hk1) (by rw [hCH.out]; exact hk)
            have hqP := npl_Po hpr.out hPH.out k
            have hof := fun w => l01Of_any p P k w hpr.out hPH.out (by omega)
            obtain ⟨q, hq⟩ : ∃ q, npl P k = q := ⟨_, rfl⟩
            rw [hq] at hMM hMc hqP hof
            have hql := hMM.1
            have hofH := Lib.hid hof
            have hqH := Lib.hid hq
            have hqPH := Lib.hid hqP
            have hMcH := Lib.hid hMc
            have hT0 := Lib.hid (Tak.start (q := q) hS.out.pa hS.out.ma)
            clear hof hq hqP hMc hMM
            go_wp2_with fail
            refine (hofH.out _).mono ?_
            rintro e w6 ⟨rfl, hn⟩
            replace hA := hA.keep hn
            replace hF := Lib.hid (hF.out.below hn)
            replace hb := Lib.hid (below_step hb.out hn)
            have hsn := hn.size
            replace hg0 : w.heap.size < _ := Nat.lt_of_lt_of_le hg0 hsn
            clear hn hsn
            clear hofH
            have hn := below_new w6 (.cells (u8s 64 (cf q)) 25)
            have hQ := Blk.new w6 (u8s 64 (cf q)) 25
            have hg06 := hg0
            replace hA := hA.keep hn
            replace hF := Lib.hid (hF.out.below hn)
            replace hb := Lib.hid (below_step hb.out hn)
            have hsn := hn.size
            replace hg0 : w.heap.size < _ := Nat.lt_of_lt_of_le hg0 hsn
            clear hn hsn
            obtain ⟨gQ, hgQ⟩ : ∃ g, w6.heap.size = g := ⟨_, rfl⟩
            rw [hgQ] at hQ
            have hgQ1 : w.heap.size + 1 < gQ + 1 := by omega
            have hgQ0 : w.heap.size < gQ := by omega
            go_wp2_with ((with_reducible refine wpl_guard ?_); first | (refine wpl_alloc_arr rfl 25 rfl _ zPoly ?_) | (refine wpl_store_new rfl 25 _ _ rfl _ rfl rfl _ rfl sPoly (by simp only [u8s_size]) (u8s_oneCell _ _) ?_))
            have hw7 : (w6.alloc (.cells (u8s 64 (cf q)) 25)).heap.size = gQ + 1 := by simp [hgQ]
            obtain ⟨w7, hw7e⟩ : ∃ w7, w6.alloc (.cells (u8s 64 (cf q)) 25) = w7 := ⟨_, rfl⟩
            rw [hw7e] at hA hF hQ hb hg0 hw7
            rw [hw7e]
            have hFl := Lib.hid (hF.out)
            clear hgQ hw7e hg06
            go_loopw [9, 10, 11] (fun ev _ _ wr => ∃ (e : Nat) (a' : List Int), ev = .int .i64 (e : Int) ∧ e ≤ 6 ∧ Hid (Tak p a q e a') ∧ Hid (FcL 58 wr (w.heap.size + 1) u5 fs) ∧ Blk wr w.heap.size (u8s 64 (cf a')) 25 ∧ Blk wr gQ (u8s 64 (cf q)) 25 ∧ w.heap.size < wr.heap.size ∧ Hid (Below w.heap.size w wr)) (fun ev _ _ _ => 7 - (intOf ev).toNat)
            case atStart => exact ⟨0, a, rfl, by omega, hT0, hF, hA, hQ, hg0, hb⟩
            case round =>
              clear hA hF hQ hb hg0 hT0 hFl hw7
              rename World => w8
              obtain ⟨e, a', rfl, he6, hT, hF, hA, hQ, hg0, hb⟩ := hrel
              have htl := hT.out.len
              have ha1 := List.length_pos_iff.2 hT.out.ma.1
              have ha0 := hLH.out
              have hP64 : P64 p a' := ⟨hpr.out, hT.out.pa, by omega⟩
              have hdg := Lib.hid (fun w => l01Deg_list p a' w hP64)
              have hP64q : P64 p q := ⟨hpr.out, hqPH.out, by omega⟩
              have hdv := Lib.hid (fun w => l01Divide_any a' q p w hP64 hP64q hMcH.out.1)
              have hdS := divp_spec hpr.out hT.out.pa hqPH.out hMcH.out.1
              obtain ⟨L', hL'⟩ : ∃ L, a'.length = L := ⟨_, rfl⟩
              have hL6' : L' ≤ 6 := by omega
              have hL'1 : 1 ≤ L' := by omega
              have hen := Lib.hid (by rw [← hL', ← ha0]; exact htl : e * (q.length - 1) + (L' - 1) = L - 1)
              rw [hL'] at hdg
              have hLH' := Lib.hid hL'
              clear hP64 hP64q hL' htl ha1 ha0
              go_wp2_with ((with_reducible refine wpl_guard ?_); first | (refine wpl_load_arr rfl 25 _ rfl _ rfl _ _ hA _ _ uPoly sPoly ?_))
              refine (hdg.out _).mono ?_
              rintro e1 w9 ⟨rfl, hn⟩
              replace hA := hA.keep hn
              replace hQ := hQ.keep hn
              replace hF := Lib.hid (hF.out.below hn)
              replace hb := Lib.hid (below_step hb.out hn)
              have hsn := hn.size
              replace hg0 : w.heap.size < _ := Nat.lt_of_lt_of_le hg0 hsn
              clear hn hsn
              clear hdg
              by_cases hge : n + 1 ≤ L'
              · have hgeI : (n : Int) ≤ (L' : Int) - 1 := by omega
                obtain ⟨DQ, hDQ⟩ : ∃ x, (divp p a' q).1 = x := ⟨_, rfl⟩
                obtain ⟨DR, hDR⟩ : ∃ x, (divp p a' q).2 = x := ⟨_, rfl⟩
                rw [hDQ, hDR] at hdv hdS
                have hDQH := Lib.hid hDQ
                have hDRH := Lib.hid hDR
                have hdSH := Lib.hid hdS
                clear hDQ hDR hdS
                go_wp2_with ((with_reducible refine wpl_guard ?_); first | (refine wpl_load_arr rfl 25 _ rfl _ rfl _ _ hA _ _ uPoly sPoly ?_) | (refine wpl_load_arr rfl 25 _ rfl _ rfl _ _ hQ _ _ uPoly sPoly ?_))
                refine (hdv.out _).mono ?_
                rintro e1 w10 ⟨rfl, hn⟩
                replace hA := hA.keep hn
                replace hQ := hQ.keep hn
                replace hF := Lib.hid (hF.out.below hn)
                replace hb := Lib.hid (below_step hb.out hn)
                have hsn := hn.size
                replace hg0 : w.heap.size < _ := Nat.lt_of_lt_of_le hg0 hsn
                clear hn hsn
                clear hdv
                have hD0 := (Blk.new w10 (u8s 64 fun _ => 0) 25).alloc (.cells (u8s 64 fun _ => 0) 25)
                have hR0 := Blk.newAt (w := w10.alloc (.cells (u8s 64 fun _ => 0) 25)) (n := w10.heap.size + 1) (by simp) (u8s 64 fun _ => 0) 25
                have hD1 := hD0.setRow_same (cs := u8s 64 (cf DQ))
                have hR1 := hR0.setRow_other (g := w10.heap.size) (cs := u8s 64 (cf DQ)) (by omega)
                have hD2 := hD1.setRow_other (g := w10.heap.size + 1) (cs := u8s 64 (cf DR)) (by omega)
                have hR2 := hR1.setRow_same (cs := u8s 64 (cf DR))
                have hn : Below w10.heap.size w10 ((((w10.alloc (.cells (u8s 64 fun _ => 0) 25)).alloc (.cells (u8s 64 fun _ => 0) 25)).setRow w10.heap.size (u8s 64 (cf DQ))).setRow (w10.heap.size + 1) (u8s 64 (cf DR))) :=
                  below_setRow (below_setRow ((below_new w10 _).alloc (by simp) _) (Nat.le_refl _) _) (by omega) _
                have hg10 := hg0
                replace hA := hA.keep hn
                replace hQ := hQ.keep hn
                replace hF := Lib.hid (hF.out.below hn)
                replace hb := Lib.hid (below_step hb.out hn)
                have hsn := hn.size
                replace hg0 : w.heap.size < _ := Nat.lt_of_lt_of_le hg0 hsn
                clear hn hsn
                have hzd : ∀ {b : Bool}, (DR = [] ↔ b = true) → ∀ inst, @decide (∀ i, i < 64 → cf DR i = (fun _ => (0 : Int)) i) inst = b := fun hb inst => zero_dec hdSH.out.2.1 (by have := hdSH.out.2.2.1; omega) hb
                go_upto_region 11 with ((with_reducible refine wpl_guard ?_); first | (refine wpl_alloc_arr rfl 25 rfl _ zPoly ?_) | (refine wpl_store_arr rfl 25 _ _ rfl _ rfl (u8s 64 (cf DQ)) rfl _ _ hD0 sPoly (by simp only [u8s_size]) (u8s_oneCell _ _) ?_) | (refine wpl_store_arr rfl 25 _ _ rfl _ rfl (u8s 64 (cf DR)) rfl (u8s 64 fun _ => 0) 25 (by first | exact hR1 | (rw [size_alloc]; exact hR1)) sPoly (by simp only [u8s_size]) (u8s_oneCell _ _) ?_))
                try simp only [Act.put, List.setIfInBounds_toArray, List.set_cons_zero, List.set_cons_succ, size_alloc]
                generalize World.setRow (World.setRow _ w10.heap.size (u8s 64 (cf DQ))) (w10.heap.size + 1) (u8s 64 (cf DR)) = y0 at *
                clear hD0 hD1 hR0 hR1 hg10
                by_cases hR : DR = []
                · have hz1 := Lib.hid (@hzd true ⟨fun _ => rfl, fun _ => hR⟩)
                  have hTn := Lib.hid (by have h1 := hT.out.step hpr.out hqPH.out hMcH.out (hDRH.out.trans hR); rw [hDQH.out] at h1; exact h1 : Tak p a q (e + 1) DQ)
                  have hle := Lib.hid (by have h1 := hTn.out.len; have h2 := hLH.out; rw [h2, hql] at h1; exact h1 : (e + 1) * (n + 1 - 1) + (DQ.length - 1) = L - 1)
                  have he5 : e + 1 ≤ 6 := by
                    have h1 := hle.out
                    have h2 : (e + 1) * 1 ≤ (e + 1) * (n + 1 - 1) := Nat.mul_le_mul_left _ (by omega)
                    omega
                  clear hzd hR
                  go_wp2_with ((with_reducible refine wpl_guard ?_); first | (refine wpl_load_arr rfl 25 _ rfl _ rfl _ _ hR2 _ _ uPoly sPoly ?_) | (refine wpl_load_arr rfl 25 _ rfl _ rfl _ _ hD2 _ _ uPoly sPoly ?_) | (refine wpl_build_zero rfl 25 64 5 rfl _ uPoly sByte zPoly ?_) | (refine wpl_neq_arr rfl 25 _ _ _ rfl 64 .u8 (cf DR) (fun _ => 0) 5 rfl rfl uPoly uByte sByte gPoly _ (hz1.out _) ?_) | (refine wpl_store_arr rfl 25 _ _ rfl _ rfl (u8s 64 (cf DQ)) rfl _ _ hA sPoly (by simp only [u8s_size]) (u8s_oneCell _ _) ?_))
                  have hA9 := hA.setRow_same (cs := u8s 64 (cf DQ))
                  have hQ9 := hQ.setRow_other (g := w.heap.size) (cs := u8s 64 (cf DQ)) (by omega)
                  have hF9 := Lib.hid (hF.out.kept (grown_rowF _ w.heap.size (u8s 64 (cf DQ))) (by
                    cases hv : u5.ownBlock with
                    | none => exact .inl rfl
                    | some g => exact .inr (fun e1 => by have := (hF.out.own hv).1; have h3 := Option.some.inj e1; omega)))
                  have hb9 := Lib.hid (below_setRow hb.out (Nat.le_refl _) (u8s 64 (cf DQ)))
                  go_roundw
                  case rel => exact ⟨e + 1, DQ, by go_num, by omega, hTn, hF9, hA9, hQ9, by simpa using hg0, hb9⟩
                  case measure => simp [intOf] <;> omega
                · have hz1 := Lib.hid (@hzd false ⟨fun h => absurd h hR, fun h => by cases h⟩)
                  have hno := Lib.hid (fun hd => hR (hDRH.out.symm.trans ((dv_rest hpr.out hqPH.out hT.out.pa hMcH.out.1).1 hd)) : ¬ Dv p (cf q) (cf a'))
                  clear hzd hR
                  go_upto_region 14 with ((with_reducible refine wpl_guard ?_); first | (refine wpl_load_arr rfl 25 _ rfl _ rfl _ _ hR2 _ _ uPoly sPoly ?_) | (refine wpl_build_zero rfl 25 64 5 rfl _ uPoly sByte zPoly ?_) | (refine wpl_neq_arr rfl 25 _ _ _ rfl 64 .u8 (cf DR) (fun _ => 0) 5 rfl rfl uPoly uByte sByte gPoly _ (hz1.out _) ?_))
                  clear hD2 hR2
                  have hfl := hS.out.flen
                  have h66 := h6H.out
                  by_cases he : 0 < e
                  · have heI : 0 < (e : Int) := by omega
                    have hspn := Lib.hid (hS.out.take hn1 hqH.out hql hMcH.out hqPH.out hT.out he hno.out)
                    have nw := Lib.hid (fc_news y0 58 (q, e))
                    have hnl := below_new y0 (.cells (fcc (q, e)).toArray 58)
                    have hB3 := Lib.hid (hF.out.below hnl)
                    have hbn := Lib.hid (below_step hb.out hnl)
                    have hbsz : w.heap.size + 1 ≤ (y0.alloc (.cells (fcc (q, e)).toArray 58)).heap.size := by simp; omega
                    clear hnl
                    go_wp2_with ((with_reducible refine wpl_guard ?_); first | (refine wpl_load_arr rfl 25 _ rfl _ rfl _ _ hQ _ _ uPoly sPoly ?_) | (refine wpl_build_pair rfl 58 64 1 zeroFc layFsF (by rw [zeroFc_size]) _ _ rfl (.agg (u8s 64 (cf q))) (.int .i64 (e : Int)) rfl rfl (by simp [Value.cells, u8s_size]) rfl (fcc (q, e)).toArray (fcc_arr (q, e)) ?_) | (refine wpl_buildSlice_str rfl 54 58 65 _ rfl uFsF sFsF zeroFc zzFsF zeroFc_size (by decide) (by decide) (fcc (q, e)).toArray (by rw [List.size_toArray, fcc_len]) rfl ?_) | (at_builtin; refine wpl_append_farB rfl _ _ 54 rfl (w.heap.size + 1) 58 (.agg zeroFc) 65 72 uFsF iFsF (by simp [Value.cells, zeroFc_size]) (by decide) (by decide) _ fs.length _ rfl hB3.out ⟨y0.heap.size, 0, none⟩ rfl (fcc (q, e)) (fcc_len _) (fun j u h => by rw [addr_add]; exact nw.out j u h) (fcc_one _) (by omega) hbsz ?_))
                    intro v6 w6 hown6 hg6 _
                    have hF6 := Lib.hid (FcL.snoc (fs := fs) hown6)
                    have hA6 := (hA.alloc (.cells (fcc (q, e)).toArray 58)).grown hg6 (fun e1 => absurd (hF.out.own e1.symm).1 (by omega))
                    have hb6 := Lib.hid (hbn.out.grown hg6 (by omega) (fun g e1 => by have := (hF.out.own e1).1; omega))
                    have hg06 : w.heap.size < w6.heap.size := by have := hg6.size; omega
                    clear hown6 hg6 hF hA hQ hb hbn hB3 nw
                    go_wp2_with fail
                    go_roundw
                    case rel => exact ⟨k + 1, fs ++ [(q, e)], a', by go_num, by omega, by omega, hspn, hF6, hA6, hg06, hb6⟩
                    case measure => simp [intOf] <;> omega
                  · have heI : ¬ 0 < (e : Int) := by omega
                    have haa := hT.out.zero (by omega)
                    have hspn := Lib.hid (hS.out.skip (by rw [hqH.out, ← haa]; exact hno.out))
                    have hA6 := hA.cast (cs' := u8s 64 (cf a)) (by rw [haa])
                    clear haa hA hQ
                    go_wp2_with fail
                    go_roundw
                    case rel => exact ⟨k + 1, fs, a, by go_num, by omega, by omega, hspn, hF, hA6, hg0, hb⟩
                    case measure => simp [intOf] <;> omega
              · have hgeI : ¬ (n : Int) ≤ (L' : Int) - 1 := by omega
                have hno := Lib.hid (fun hd => by have h1 := (Dv.len hpr.out hqPH.out hT.out.pa hd hT.out.ma.1).2; have h2 := hLH'.out; omega : ¬ Dv p (cf q) (cf a'))
                clear hdv
                go_upto_region 14 with (fail)
                have hfl := hS.out.flen
                have h66 := h6H.out
                by_cases he : 0 < e
                · have heI : 0 < (e : Int) := by omega
                  have hspn := Lib.hid (hS.out.take hn1 hqH.out hql hMcH.out hqPH.out hT.out he hno.out)
                  have nw := Lib.hid (fc_news w9 58 (q, e))
                  have hnl := below_new w9 (.cells (fcc (q, e)).toArray 58)
                  have hB3 := Lib.hid (hF.out.below hnl)
                  have hbn := Lib.hid (below_step hb.out hnl)
                  have hbsz : w.heap.size + 1 ≤ (w9.alloc (.cells (fcc (q, e)).toArray 58)).heap.size := by simp; omega
                  clear hnl
                  go_wp2_with ((with_reducible refine wpl_guard ?_); first | (refine wpl_load_arr rfl 25 _ rfl _ rfl _ _ hQ _ _ uPoly sPoly ?_) | (refine wpl_build_pair rfl 58 64 1 zeroFc layFsF (by rw [zeroFc_size]) _ _ rfl (.agg (u8s 64 (cf q))) (.int .i64 (e : Int)) rfl rfl (by simp [Value.cells, u8s_size]) rfl (fcc (q, e)).toArray (fcc_arr (q, e)) ?_) | (refine wpl_buildSlice_str rfl 54 58 65 _ rfl uFsF sFsF zeroFc zzFsF zeroFc_size (by decide) (by decide) (fcc (q, e)).toArray (by rw [List.size_toArray, fcc_len]) rfl ?_) | (at_builtin; refine wpl_append_farB rfl _ _ 54 rfl (w.heap.size + 1) 58 (.agg zeroFc) 65 72 uFsF iFsF (by simp [Value.cells, zeroFc_size]) (by decide) (by decide) _ fs.length _ rfl hB3.out ⟨w9.heap.size, 0, none⟩ rfl (fcc (q, e)) (fcc_len _) (fun j u h => by rw [addr_add]; exact nw.out j u h) (fcc_one _) (by omega) hbsz ?_))
                  intro v6 w6 hown6 hg6 _
                  have hF6 := Lib.hid (FcL.snoc (fs := fs) hown6)
                  have hA6 := (hA.alloc (.cells (fcc (q, e)).toArray 58)).grown hg6 (fun e1 => absurd (hF.out.own e1.symm).1 (by omega))
                  have hb6 := Lib.hid (hbn.out.grown hg6 (by omega) (fun g e1 => by have := (hF.out.own e1).1; omega))
                  have hg06 : w.heap.size < w6.heap.size := by have := hg6.size; omega
                  clear hown6 hg6 hF hA hQ hb hbn hB3 nw
                  go_wp2_with fail
                  go_roundw
                  case rel => exact ⟨k + 1, fs ++ [(q, e)], a', by go_num, by omega, by omega, hspn, hF6, hA6, hg06, hb6⟩
                  case measure => simp [intOf] <;> omega
                · have heI : ¬ 0 < (e : Int) := by omega
                  have haa := hT.out.zero (by omega)
                  have hspn := Lib.hid (hS.out.skip (by rw [hqH.out, ← haa]; exact hno.out))
                  have hA6 := hA.cast (cs' := u8s 64 (cf a)) (by rw [haa])
                  clear haa hA hQ
                  go_wp2_with fail
                  go_roundw
                  case rel => exact ⟨k + 1, fs, a, by go_num, by omega, by omega, hspn, hF, hA6, hg0, hb⟩
                  case measure => simp [intOf] <;> omega
          · have hcI : ¬ 2 * (n : Int) ≤ (L : Int) - 1 := by omega
            have hSX : SplX p P m fs a (n + 1) := ⟨n, k, hS.out, .inr ⟨by omega, by have := hLH.out; omega⟩⟩
            have hSXH := Lib.hid hSX
            clear hSX
            go_wp2_with fail
            go_roundw
            case rel => exact ⟨n + 1, fs, a, by go_num, by omega, by omega, hSXH, hF, hA, hg0, hb⟩
            case measure => simp [intOf] <;> omega
        · have hkI : ¬ (k : Int) < 2 * (C : Int) := by omega
          have hSX : SplX p P m fs a (n + 1) := ⟨n + 1, P ^ (n + 1), hS.out.next hpr.out hPH.out (by omega) (by rw [hCH.out]; omega), .inl ⟨rfl, rfl⟩⟩
          have hSXH := Lib.hid hSX
          clear hSX
          go_wp2_with fail
          go_roundw
          case rel => exact ⟨n + 1, fs, a, by go_num, by omega, by omega, hSXH, hF, hA, hg0, hb⟩
          case measure => simp [intOf] <;> omega
    · have hcI : ¬ 2 * (n : Int) ≤ (L : Int) - 1 := by omega
      rename List Int => xa
      have hend : xa.length - 1 < 2 * n' := by
        have := hLH.out
        rcases horH.out with ⟨e1, _⟩ | ⟨_, e2⟩
        · omega
        · exact e2
      have hP64a : P64 p xa := ⟨hpr.out, hSpH.out.pa, by have := hLH.out; omega⟩
      have hfl := hSpH.out.flen
      have h66 := h6H.out
      obtain ⟨D, hD⟩ : ∃ D, L - 1 = D := ⟨_, rfl⟩
      have hdg := fun w => l01Deg_list p xa w hP64a
      rw [hLH.out, show ((L : Nat) : Int) - 1 = ((D : Nat) : Int) by omega] at hdg
      have hdgH := Lib.hid hdg
      have hendH := Lib.hid hend
      have hD5 : D ≤ 5 := by omega
      have hDL := Lib.hid (by omega : L = D + 1)
      clear hdg hend hc hD hal
      go_wp2_with ((with_reducible refine wpl_guard ?_); first | (refine wpl_load_arr rfl 25 _ rfl _ rfl _ _ hA _ _ uPoly sPoly ?_))
      refine (hdgH.out _).mono ?_
      rintro e w2 ⟨rfl, hn⟩
      replace hA := hA.keep hn
      replace hF := Lib.hid (hF.out.below hn)
      replace hb := Lib.hid (below_step hb.out hn)
      have hsn := hn.size
      replace hg0 : w.heap.size < _ := Nat.lt_of_lt_of_le hg0 hsn
      clear hn hsn
      by_cases hD0 : 0 < D
      · have hD0I : 0 < (D : Int) := by omega
        have hmon : cf xa D = 1 := by have h1 := hSpH.out.ma.2; rw [hLH.out, hDL.out] at h1; exact h1
        have hmonH := Lib.hid hmon
        have hdn := Lib.hid (hSpH.out.done hpr.out hendH.out (by rw [hLH.out, hDL.out]; omega))
        have hiv := fun w => l01Inverse_any p 1 w hpr.out (by omega) (by omega)
        rw [invp_at1 hpr.out] at hiv
        have had := fun w => l01Add_list [] xa p 1 w ⟨hpr.out, Po_nil (by omega), by simp⟩ hP64a (by omega) (by omega)
        rw [addp_void hpr.out hSpH.out.pa, cf_void] at had
        have hivH := Lib.hid hiv
        have hadH := Lib.hid had
        have hP64H := Lib.hid hP64a
        have hD64 : D < 64 := by omega
        clear hiv had hmon hP64a hdgH
        go_upto_region 18 with (fail)
        refine law_region2 (by kernel_rfl) (by kernel_rfl) (by kernel_rfl) (by kernel_rfl)
            (fun i => ([some (.int .i64 p), some (.agg (u8s 64 fun _ => 0)), some (.agg (u8s 64 (cf xa))), some (.int .i64 p), some (.int .i64 D), some (.pointer (some ⟨w.heap.size, D, none⟩)), some (.int .u8 1), some (.int .u8 1), some (.int .i64 1), some (.agg (u8s 64 (cf xa))), none, none] : List (Option Value)).getD i none) 1 (fun zk => [10].getD zk 0) (fun zk => [11].getD zk 0) (fun zk => [9].getD zk 0) (fun zk => [13].getD zk 0) (fun zk => [82].getD zk 0) (fun zk => [64].getD zk 0) (fun zk => [(cf xa)].getD zk (fun _ => 0)) (fun zk => [25].getD zk 0) ?_ ?_ ?_ ?_ ?_ ?_
        · intro i hi
          rcases i with _|_|_|_|_|_|_|_|_|_|_|_|i
          · exact .inl ⟨_, rfl⟩
          · exact .inl ⟨_, rfl⟩
          · exact .inl ⟨_, rfl⟩
          · exact .inl ⟨_, rfl⟩
          · exact .inl ⟨_, rfl⟩
          · exact .inl ⟨_, rfl⟩
          · exact .inl ⟨_, rfl⟩
          · exact .inl ⟨_, rfl⟩
          · exact .inl ⟨_, rfl⟩
          · exact .inl ⟨_, rfl⟩
          · exact .inr (.inl ⟨0, by decide, rfl⟩)
          · exact .inr (.inr ⟨0, by decide, rfl⟩)
          · simp only [List.length_cons, List.length_nil] at hi; omega
        · intro k hk
          rcases k with _|k
          · exact ⟨rfl, rfl, rfl, zPoly⟩
          · omega
        · intro k hk k' hk'
          rcases k with _|k
          all_goals rcases k' with _|k'
          all_goals first | omega | exact ⟨by decide, by decide, by decide⟩
        · intro k hk
          rcases k with _|k
          · kernel_rfl
          · omega
        · intro i o c ho hc a wz hBw hrd hpar
          rcases i with _|_|_|_|_|_|_|_|_|_|_|_|i
          · obtain rfl := Option.some.inj ho
            obtain rfl := Option.some.inj hc
            exact wp_move _ (.int .i64 p) rfl (hpar 0 _ (by kernel_rfl) (by kernel_rfl))
          · obtain rfl := Option.some.inj ho
            obtain rfl := Option.some.inj hc
            exact wp_build_zeroB 25 64 5 rfl uPoly sByte zPoly
          · obtain rfl := Option.some.inj ho
            obtain rfl := Option.some.inj hc
            exact wp_loadB 25 _ rfl _ (hpar 3 (.pointer (some ⟨w.heap.size, 0, none⟩)) (by kernel_rfl) (by kernel_rfl)) _ _ (hA.keep hBw) _ _ uPoly sPoly
          · obtain rfl := Option.some.inj ho
            obtain rfl := Option.some.inj hc
            exact wp_move _ (.int .i64 p) rfl (hpar 0 _ (by kernel_rfl) (by kernel_rfl))
          · obtain rfl := Option.some.inj ho
            obtain rfl := Option.some.inj hc
            exact wp_move _ (.int .i64 D) rfl (hpar 12 _ (by kernel_rfl) (by kernel_rfl))
          · obtain rfl := Option.some.inj ho
            obtain rfl := Option.some.inj hc
            exact wp_index_arr 25 5 64 _ _ rfl uPoly sByte (w.heap.size) D .i64 (hpar 3 _ (by kernel_rfl) (by kernel_rfl)) (hrd 4 _ _ 77 rfl rfl rfl (by kernel_rfl) (by kernel_rfl)) hD64
          · obtain rfl := Option.some.inj ho
            obtain rfl := Option.some.inj hc
            exact wp_load_cell 5 _ rfl _ (hrd 5 _ _ 78 rfl rfl rfl (by kernel_rfl) (by kernel_rfl)) .u8 uByte _ (by rw [(hA.keep hBw).cell, u8s_get _ hD64, hmonH.out])
          · obtain rfl := Option.some.inj ho
            obtain rfl := Option.some.inj hc
            exact wp_callB 50 [.tmp 76, .tmp 79] _ rfl [.int .i64 p, .int .u8 1] (by simp only [List.map_cons, List.map_nil, (hrd 3 _ _ 76 rfl rfl rfl (by kernel_rfl) (by kernel_rfl)), (hrd 6 _ _ 79 rfl rfl rfl (by kernel_rfl) (by kernel_rfl))]) Try.call50 _ ((hivH.out wz).mono fun _ _ h => ⟨h.1, h.2 ▸ Below.refl _ _⟩)
          · obtain rfl := Option.some.inj ho
            obtain rfl := Option.some.inj hc
            exact wp_conv_u8 5 2 _ rfl _ (hrd 7 _ _ 80 rfl rfl rfl (by kernel_rfl) (by kernel_rfl)) (by omega) (by omega) uByte uInt
          · obtain rfl := Option.some.inj ho
            obtain rfl := Option.some.inj hc
            exact wp_callB 49 [.tmp 73, .tmp 74, .tmp 75, .tmp 81] _ rfl [.int .i64 p, .agg (u8s 64 fun _ => 0), .agg (u8s 64 (cf xa)), .int .i64 1] (by simp only [List.map_cons, List.map_nil, (hrd 0 _ _ 73 rfl rfl rfl (by kernel_rfl) (by kernel_rfl)), (hrd 1 _ _ 74 rfl rfl rfl (by kernel_rfl) (by kernel_rfl)), (hrd 2 _ _ 75 rfl rfl rfl (by kernel_rfl) (by kernel_rfl)), (hrd 8 _ _ 81 rfl rfl rfl (by kernel_rfl) (by kernel_rfl))]) Try.call49 _ (hadH.out wz)
          · cases hc
          · cases hc
          · cases hc
        intro vals xS hBw hc hr
        have e0 : vals 0 = .int .i64 p := hc 0 _ (by simp) rfl
        have e1 : vals 1 = .agg (u8s 64 fun _ => 0) := hc 1 _ (by simp) rfl
        have e2 : vals 2 = .agg (u8s 64 (cf xa)) := hc 2 _ (by simp) rfl
        have e3 : vals 3 = .int .i64 p := hc 3 _ (by simp) rfl
        have e4 : vals 4 = .int .i64 D := hc 4 _ (by simp) rfl
        have e5 : vals 5 = .pointer (some ⟨w.heap.size, D, none⟩) := hc 5 _ (by simp) rfl
        have e6 : vals 6 = .int .u8 1 := hc 6 _ (by simp) rfl
        have e7 : vals 7 = .int .u8 1 := hc 7 _ (by simp) rfl
        have e8 : vals 8 = .int .i64 1 := hc 8 _ (by simp) rfl
        have e9 : vals 9 = .agg (u8s 64 (cf xa)) := hc 9 _ (by simp) rfl
        obtain ⟨gS0, p0, hgS0, hS0⟩ : ∃ g, vals 10 = .pointer (some ⟨g, 0, none⟩) ∧ _ ≤ g ∧ Blk xS g (u8s 64 (cf xa)) 25 := hr 0 (by decide)
        simp only [List.length_cons, List.length_nil, Nat.zero_add, Nat.reduceAdd, List.replicate, putAll, if_true, Act.put, List.setIfInBounds_toArray, List.set_cons_zero, List.set_cons_succ, e0, e1, e2, e3, e4, e5, e6, e7, e8, e9, p0]
        clear hc hr e0 e1 e2 e3 e4 e5 e6 e7 e8 e9 p0
        have hsw := hBw.size
        have hgA : w.heap.size + 1 ≤ gS0 := by omega
        replace hA := hA.keep hBw
        replace hF := Lib.hid (hF.out.below hBw)
        replace hb := Lib.hid (below_step hb.out hBw)
        clear hBw hgS0
        obtain ⟨oa, ca, hu5⟩ := hF.out.sl
        subst hu5
        by_cases hfs : fs = []
        · subst hfs
          have hfl0 : ([] : Fs).length ≤ 6 := by simp
          go_upto_region 20 with (fail)
          go_upto_region 20 with (fail)
          refine gen_guard (w := _) (by kernel_rfl) (by kernel_rfl) (by kernel_rfl)
              (fun i => ([fun zv _ => zv = .int .i64 (-1), fun zv _ => zv = .bool false, fun zv _ => zv = .bool false, fun zv _ => zv = undef, fun zv _ => zv = undef, fun zv _ => zv = undef, fun zv _ => zv = undef, fun zv _ => zv = undef, fun zv _ => zv = undef, fun zv _ => zv = undef, fun zv _ => zv = .bool false] : List (Value → World → Prop)).getD i (fun _ _ => True))
              (fun w' => Blk w' (gS0) (u8s 64 (cf xa)) 25 ∧ True) ⟨hS0.drew, trivial⟩ (fun w1 w2 h hb => ⟨h.1.keep hb, trivial⟩) ?_ ?_ ?_
          · intro i v w1 w2 h hb
            rcases i with _|_|_|_|_|_|_|_|_|_|_|i
            · exact h
            · exact h
            · exact h
            · exact h
            · exact h
            · exact h
            · exact h
            · exact h
            · exact h
            · exact h
            · exact h
            · exact h
          · intro i o ho a w2 hBl hSx hrd hpar
            rcases i with _|_|_|_|_|_|_|_|_|_|_|i
            · obtain rfl := Option.some.inj ho
              refine .inl ⟨rfl, ?_⟩
              have e14 : a.eval (.tmp 14) = .int .i64 (-1) := hpar 14 _ (by kernel_rfl) (by kernel_rfl)
              exact wpv_of (wp_move _ _ rfl e14) (fun _ _ => rfl)
            · obtain rfl := Option.some.inj ho
              refine .inl ⟨rfl, ?_⟩
              have e86 : a.eval (.tmp 86) = .int .i64 (-1) := hrd 0 _ 86 rfl rfl (by kernel_rfl) (by kernel_rfl)
              exact wpv_of (wp_cmp .geq _ _ _ _ rfl rfl .i64 _ _ e86 rfl false (by unfold cmpB; first | rfl | exact decide_eq_true (by omega))) (fun _ _ => rfl)
            · obtain rfl := Option.some.inj ho
              refine .inl ⟨rfl, ?_⟩
              have e87 : a.eval (.tmp 87) = .bool false := hrd 1 _ 87 rfl rfl (by kernel_rfl) (by kernel_rfl)
              exact wpv_of (wp_move _ _ rfl e87) (fun _ _ => rfl)
            · obtain rfl := Option.some.inj ho
              exact .inr (.inr ⟨2, true, _, 88, rfl, rfl, rfl, (by kernel_rfl), (by kernel_rfl), fun v w' h => .inl h, fun _ => rfl⟩)
            · obtain rfl := Option.some.inj ho
              exact .inr (.inr ⟨2, true, _, 88, rfl, rfl, rfl, (by kernel_rfl), (by kernel_rfl), fun v w' h => .inl h, fun _ => rfl⟩)
            · obtain rfl := Option.some.inj ho
              exact .inr (.inr ⟨2, true, _, 88, rfl, rfl, rfl, (by kernel_rfl), (by kernel_rfl), fun v w' h => .inl h, fun _ => rfl⟩)
            · obtain rfl := Option.some.inj ho
              exact .inr (.inr ⟨2, true, _, 88, rfl, rfl, rfl, (by kernel_rfl), (by kernel_rfl), fun v w' h => .inl h, fun _ => rfl⟩)
            · obtain rfl := Option.some.inj ho
              exact .inr (.inr ⟨2, true, _, 88, rfl, rfl, rfl, (by kernel_rfl), (by kernel_rfl), fun v w' h => .inl h, fun _ => rfl⟩)
            · obtain rfl := Option.some.inj ho
              exact .inr (.inr ⟨2, true, _, 88, rfl, rfl, rfl, (by kernel_rfl), (by kernel_rfl), fun v w' h => .inl h, fun _ => rfl⟩)
            · obtain rfl := Option.some.inj ho
              exact .inr (.inr ⟨2, true, _, 88, rfl, rfl, rfl, (by kernel_rfl), (by kernel_rfl), fun v w' h => .inl h, fun _ => rfl⟩)
            · obtain rfl := Option.some.inj ho
              refine .inl ⟨rfl, ?_⟩
              have e88 : a.eval (.tmp 88) = .bool false := hrd 2 _ 88 rfl rfl (by kernel_rfl) (by kernel_rfl)
              exact wpv_of (wp_pickF _ _ _ rfl e88 (.bool false) rfl) (fun _ _ => rfl)
            · simp at ho
          intro vals xE hBx hSx hc0
          have e0 : vals 0 = .int .i64 (-1) := hc0 0 (by simp)
          have e1 : vals 1 = .bool false := hc0 1 (by simp)
          have e2 : vals 2 = .bool false := hc0 2 (by simp)
          have e3 : vals 3 = undef := hc0 3 (by simp)
          have e4 : vals 4 = undef := hc0 4 (by simp)
          have e5 : vals 5 = undef := hc0 5 (by simp)
          have e6 : vals 6 = undef := hc0 6 (by simp)
          have e7 : vals 7 = undef := hc0 7 (by simp)
          have e8 : vals 8 = undef := hc0 8 (by simp)
          have e9 : vals 9 = undef := hc0 9 (by simp)
          have e10 : vals 10 = .bool false := hc0 10 (by simp)
          simp only [List.length_cons, List.length_nil, Nat.zero_add, Nat.reduceAdd, List.replicate, putAll, if_true, Act.put, List.setIfInBounds_toArray, List.set_cons_zero, List.set_cons_succ, e0, e1, e2, e3, e4, e5, e6, e7, e8, e9, e10]
          replace hS0 := hSx.1
          clear hc0 hSx e0 e1 e2 e3 e4 e5 e6 e7 e8 e9 e10
          replace hF := Lib.hid (hF.out.below hBx)
          replace hb := Lib.hid (below_step hb.out hBx)
          clear hBx
          have nw := Lib.hid (fc_news xE 58 (xa, 1))
          have hnl := below_new xE (.cells (fcc (xa, 1)).toArray 58)
          have hB3 := Lib.hid (hF.out.below hnl)
          have hbn := Lib.hid (below_step hb.out hnl)
          have hbsz : w.heap.size + 1 ≤ (xE.alloc (.cells (fcc (xa, 1)).toArray 58)).heap.size := by have := hS0.lt; simp; omega
          clear hnl
          go_wp2_with ((with_reducible refine wpl_guard ?_); first | (refine wpl_load_arr rfl 25 _ rfl _ rfl _ _ hS0 _ _ uPoly sPoly ?_) | (refine wpl_build_pair rfl 58 64 1 zeroFc layFsF (by rw [zeroFc_size]) _ _ rfl (.agg (u8s 64 (cf xa))) (.int .i64 ((1 : Nat) : Int)) rfl rfl (by simp [Value.cells, u8s_size]) rfl (fcc (xa, 1)).toArray (fcc_arr (xa, 1)) ?_) | (refine wpl_buildSlice_str rfl 54 58 65 _ rfl uFsF sFsF zeroFc zzFsF zeroFc_size (by decide) (by decide) (fcc (xa, 1)).toArray (by rw [List.size_toArray, fcc_len]) rfl ?_) | (at_builtin; refine wpl_append_farB rfl _ _ 54 rfl (w.heap.size + 1) 58 (.agg zeroFc) 65 72 uFsF iFsF (by simp [Value.cells, zeroFc_size]) (by decide) (by decide) _ ([] : Fs).length _ rfl hB3.out ⟨xE.heap.size, 0, none⟩ rfl (fcc (xa, 1)) (fcc_len _) (fun j u h => by rw [addr_add]; exact nw.out j u h) (fcc_one _) (by omega) hbsz ?_))
          intro v6 w6 hown6 hg6 _
          have hF6 := Lib.hid (FcL.snoc (fs := ([] : Fs)) hown6)
          have hb6 := Lib.hid (hbn.out.grown hg6 (by omega) (fun g e1 => by have := (hF.out.own e1).1; omega))
          clear hown6 hg6 hF hb hbn hB3 nw
          go_wp2_with fail
          go_ret
          exact ⟨_, ([] : Fs) ++ [(xa, 1)], rfl, hF6.out.mono (by omega), hdn.out, hb6.out⟩
        · obtain ⟨r, hr⟩ : ∃ r, fs.length = r + 1 := ⟨fs.length - 1, by have := List.length_pos_iff.2 hfs; omega⟩
          have hrI : (fs.length : Int) - 1 = (r : Int) := by omega
          have hrlt : r < fs.length := by omega
          obtain ⟨y, hy⟩ : ∃ y, fs[r]? = some y := ⟨fs[r], List.getElem?_eq_getElem hrlt⟩
          have hym := List.mem_of_getElem? hy
          have hyi := hSpH.out.irr y hym
          have hyP := Lib.hid (⟨hpr.out, hyi.1.po, by have h1 := dsum_mem (p := p) hym hyi.2.1; have h2 := hSpH.out.deg; have h3 := hyi.1.deg; omega⟩ : P64 p y.1)
          have hyne := Lib.hid (hSpH.out.ne hym)
          have hyH := Lib.hid hy
          have hrH := Lib.hid hrlt
          obtain ⟨gL, rfl, hgL⟩ := hF.out.slc (by omega)
          have hfl6 : fs.length ≤ 6 := by omega
          clear hy hym hyi hr hfs
          go_upto_region 20 with (fail)
          clear hrI
          go_upto_region 20 with (fail)
          refine gen_guard (w := _) (by kernel_rfl) (by kernel_rfl) (by kernel_rfl)
              (fun i => ([fun zv _ => zv = .int .i64 (r : Int), fun zv _ => zv = .bool true, fun zv _ => zv = .bool true, fun zv _ => zv = .slice (some ⟨gL, 0, none⟩) fs.length ca, fun zv _ => zv = .int .i64 (r : Int), fun zv _ => zv = .pointer (some ⟨gL, r * 65, none⟩), fun zv _ => zv = .pointer (some ⟨gL, r * 65 + 0, none⟩), fun zv _ => zv = .agg (u8s 64 (cf y.1)), fun zv _ => zv = .agg (u8s 64 (cf xa)), fun zv _ => zv = .bool false, fun zv _ => zv = .bool false] : List (Value → World → Prop)).getD i (fun _ _ => True))
              (fun w' => Blk w' (gS0) (u8s 64 (cf xa)) 25 ∧ True) ⟨hS0.drew, trivial⟩ (fun w1 w2 h hb => ⟨h.1.keep hb, trivial⟩) ?_ ?_ ?_
          · intro i v w1 w2 h hb
            rcases i with _|_|_|_|_|_|_|_|_|_|_|i
            · exact h
            · exact h
            · exact h
            · exact h
            · exact h
            · exact h
            · exact h
            · exact h
            · exact h
            · exact h
            · exact h
            · exact h
          · intro i o ho a w2 hBl hSx hrd hpar
            rcases i with _|_|_|_|_|_|_|_|_|_|_|i
            · obtain rfl := Option.some.inj ho
              refine .inl ⟨rfl, ?_⟩
              have e14 : a.eval (.tmp 14) = .int .i64 (r : Int) := hpar 14 _ (by kernel_rfl) (by kernel_rfl)
              exact wpv_of (wp_move _ _ rfl e14) (fun _ _ => rfl)
            · obtain rfl := Option.some.inj ho
              refine .inl ⟨rfl, ?_⟩
              have e86 : a.eval (.tmp 86) = .int .i64 (r : Int) := hrd 0 _ 86 rfl rfl (by kernel_rfl) (by kernel_rfl)
              exact wpv_of (wp_cmp .geq _ _ _ _ rfl rfl .i64 _ _ e86 rfl true (by unfold cmpB; first | rfl | exact decide_eq_true (by omega))) (fun _ _ => rfl)
            · obtain rfl := Option.some.inj ho
              refine .inl ⟨rfl, ?_⟩
              have e87 : a.eval (.tmp 87) = .bool true := hrd 1 _ 87 rfl rfl (by kernel_rfl) (by kernel_rfl)
              exact wpv_of (wp_move _ _ rfl e87) (fun _ _ => rfl)
            · obtain rfl := Option.some.inj ho
              refine .inr (.inl ⟨2, true, _, 88, rfl, rfl, rfl, (by kernel_rfl), (by kernel_rfl), fun v w' h => h, ?_⟩)
              have e5 : a.eval (.tmp 5) = .slice (some ⟨gL, 0, none⟩) fs.length ca := hpar 5 _ (by kernel_rfl) (by kernel_rfl)
              exact wpv_of (wp_move _ _ rfl e5) (fun _ _ => rfl)
            · obtain rfl := Option.some.inj ho
              refine .inr (.inl ⟨2, true, _, 88, rfl, rfl, rfl, (by kernel_rfl), (by kernel_rfl), fun v w' h => h, ?_⟩)
              have e14 : a.eval (.tmp 14) = .int .i64 (r : Int) := hpar 14 _ (by kernel_rfl) (by kernel_rfl)
              exact wpv_of (wp_move _ _ rfl e14) (fun _ _ => rfl)
            · obtain rfl := Option.some.inj ho
              refine .inr (.inl ⟨2, true, _, 88, rfl, rfl, rfl, (by kernel_rfl), (by kernel_rfl), fun v w' h => h, ?_⟩)
              have e89 : a.eval (.tmp 89) = .slice (some ⟨gL, 0, none⟩) fs.length ca := hrd 3 _ 89 rfl rfl (by kernel_rfl) (by kernel_rfl)
              have e90 : a.eval (.tmp 90) = .int .i64 (r : Int) := hrd 4 _ 90 rfl rfl (by kernel_rfl) (by kernel_rfl)
              exact wpv_of (wp_index_bs 54 58 65 _ _ rfl uFsF sFsF (by decide) gL fs.length ca r .i64 e89 e90 hrH.out) (fun _ _ => rfl)
            · obtain rfl := Option.some.inj ho
              refine .inr (.inl ⟨2, true, _, 88, rfl, rfl, rfl, (by kernel_rfl), (by kernel_rfl), fun v w' h => h, ?_⟩)
              have e91 : a.eval (.tmp 91) = .pointer (some ⟨gL, r * 65, none⟩) := hrd 5 _ 91 rfl rfl (by kernel_rfl) (by kernel_rfl)
              exact wpv_of (wp_fieldB 58 _ 0 rfl 0 64 fField0 gL (r * 65) e91) (fun _ _ => rfl)
            · obtain rfl := Option.some.inj ho
              refine .inr (.inl ⟨2, true, _, 88, rfl, rfl, rfl, (by kernel_rfl), (by kernel_rfl), fun v w' h => h, ?_⟩)
              have e92 : a.eval (.tmp 92) = .pointer (some ⟨gL, r * 65 + 0, none⟩) := hrd 6 _ 92 rfl rfl (by kernel_rfl) (by kernel_rfl)
              exact wpv_of (wp_load_bs 25 _ rfl 64 gL (r * 65 + 0) e92 (cf y.1) (fun j hj => by rw [Nat.add_zero]; exact ((hF.out.below hBl).cell hyH.out).1 j hj) 5 uPoly sPoly) (fun _ _ => rfl)
            · obtain rfl := Option.some.inj ho
              refine .inr (.inl ⟨2, true, _, 88, rfl, rfl, rfl, (by kernel_rfl), (by kernel_rfl), fun v w' h => h, ?_⟩)
              exact wpv_of (wp_loadB 25 _ rfl _ (hpar 13 (.pointer (some ⟨gS0, 0, none⟩)) (by kernel_rfl) (by kernel_rfl)) _ _ hSx.1 _ _ uPoly sPoly) (fun _ _ => rfl)
            · obtain rfl := Option.some.inj ho
              refine .inr (.inl ⟨2, true, _, 88, rfl, rfl, rfl, (by kernel_rfl), (by kernel_rfl), fun v w' h => h, ?_⟩)
              have e93 : a.eval (.tmp 93) = .agg (u8s 64 (cf y.1)) := hrd 7 _ 93 rfl rfl (by kernel_rfl) (by kernel_rfl)
              have e94 : a.eval (.tmp 94) = .agg (u8s 64 (cf xa)) := hrd 8 _ 94 rfl rfl (by kernel_rfl) (by kernel_rfl)
              exact wpv_of (wp_eql_arrB 25 _ _ _ rfl 64 .u8 (cf y.1) (cf xa) 5 e93 e94 uPoly uByte sByte gPoly false (ne_dec hyP.out hP64H.out hyne.out)) (fun _ _ => rfl)
            · obtain rfl := Option.some.inj ho
              refine .inl ⟨rfl, ?_⟩
              have e88 : a.eval (.tmp 88) = .bool true := hrd 2 _ 88 rfl rfl (by kernel_rfl) (by kernel_rfl)
              have e95 : a.eval (.tmp 95) = .bool false := hrd 9 _ 95 rfl rfl (by kernel_rfl) (by kernel_rfl)
              exact wpv_of (wp_pickT _ _ _ rfl e88 (.bool false) e95) (fun _ _ => rfl)
            · simp at ho
          intro vals xE hBx hSx hc0
          have e0 : vals 0 = .int .i64 (r : Int) := hc0 0 (by simp)
          have e1 : vals 1 = .bool true := hc0 1 (by simp)
          have e2 : vals 2 = .bool true := hc0 2 (by simp)
          have e3 : vals 3 = .slice (some ⟨gL, 0, none⟩) fs.length ca := hc0 3 (by simp)
          have e4 : vals 4 = .int .i64 (r : Int) := hc0 4 (by simp)
          have e5 : vals 5 = .pointer (some ⟨gL, r * 65, none⟩) := hc0 5 (by simp)
          have e6 : vals 6 = .pointer (some ⟨gL, r * 65 + 0, none⟩) := hc0 6 (by simp)
          have e7 : vals 7 = .agg (u8s 64 (cf y.1)) := hc0 7 (by simp)
          have e8 : vals 8 = .agg (u8s 64 (cf xa)) := hc0 8 (by simp)
          have e9 : vals 9 = .bool false := hc0 9 (by simp)
          have e10 : vals 10 = .bool false := hc0 10 (by simp)
          simp only [List.length_cons, List.length_nil, Nat.zero_add, Nat.reduceAdd, List.replicate, putAll, if_true, Act.put, List.setIfInBounds_toArray, List.set_cons_zero, List.set_cons_succ, e0, e1, e2, e3, e4, e5, e6, e7, e8, e9, e10]
          replace hS0 := hSx.1
          clear hc0 hSx e0 e1 e2 e3 e4 e5 e6 e7 e8 e9 e10
          replace hF := Lib.hid (hF.out.below hBx)
          replace hb := Lib.hid (below_step hb.out hBx)
          clear hBx
          have nw := Lib.hid (fc_news xE 58 (xa, 1))
          have hnl := below_new xE (.cells (fcc (xa, 1)).toArray 58)
          have hB3 := Lib.hid (hF.out.below hnl)
          have hbn := Lib.hid (below_step hb.out hnl)
          have hbsz : w.heap.size + 1 ≤ (xE.alloc (.cells (fcc (xa, 1)).toArray 58)).heap.size := by have := hS0.lt; simp; omega
          clear hnl
          go_wp2_with ((with_reducible refine wpl_guard ?_); first | (refine wpl_load_arr rfl 25 _ rfl _ rfl _ _ hS0 _ _ uPoly sPoly ?_) | (refine wpl_build_pair rfl 58 64 1 zeroFc layFsF (by rw [zeroFc_size]) _ _ rfl (.agg (u8s 64 (cf xa))) (.int .i64 ((1 : Nat) : Int)) rfl rfl (by simp [Value.cells, u8s_size]) rfl (fcc (xa, 1)).toArray (fcc_arr (xa, 1)) ?_) | (refine wpl_buildSlice_str rfl 54 58 65 _ rfl uFsF sFsF zeroFc zzFsF zeroFc_size (by decide) (by decide) (fcc (xa, 1)).toArray (by rw [List.size_toArray, fcc_len]) rfl ?_) | (at_builtin; refine wpl_append_farB rfl _ _ 54 rfl (w.heap.size + 1) 58 (.agg zeroFc) 65 72 uFsF iFsF (by simp [Value.cells, zeroFc_size]) (by decide) (by decide) _ fs.length _ rfl hB3.out ⟨xE.heap.size, 0, none⟩ rfl (fcc (xa, 1)) (fcc_len _) (fun j u h => by rw [addr_add]; exact nw.out j u h) (fcc_one _) (by omega) hbsz ?_))
          intro v6 w6 hown6 hg6 _
          have hF6 := Lib.hid (FcL.snoc (fs := fs) hown6)
          have hb6 := Lib.hid (hbn.out.grown hg6 (by omega) (fun g e1 => by have := (hF.out.own e1).1; omega))
          clear hown6 hg6 hF hb hbn hB3 nw
          go_wp2_with fail
          go_ret
          exact ⟨_, fs ++ [(xa, 1)], rfl, hF6.out.mono (by omega), hdn.out, hb6.out⟩
      · have hD0I : ¬ 0 < (D : Int) := by omega
        have hfd := Lib.hid (hSpH.out.done_one (by rw [hLH.out, hDL.out]; omega))
        go_wp2_with fail
        go_ret
        exact ⟨_, fs, rfl, hF.out.mono (by omega), hfd.out, hb.out⟩
end Go.Proofs.Ytojkngdabejjdaa
