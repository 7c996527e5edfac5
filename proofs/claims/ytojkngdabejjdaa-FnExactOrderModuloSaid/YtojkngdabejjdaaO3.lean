/- Walks: Euler's number. -/
import Derived.Test.YtojkngdabejjdaaO2
set_option linter.unusedVariables false
set_option linter.unusedSimpArgs false
namespace Go.Proofs.Ytojkngdabejjdaa
open Go.RowKit
section
variable {P : Program} {ops : Array Oper} {rest : List Oper} {o : Oper} {a : Act} {w : World} {Q : Exit → Act → World → Prop}
theorem wpl_index_bs (hw : Region.wanted o (yielded ops a.tmps) = true) (t e : TypeId) (m : Nat) (x i : Operand) (hop : o.op = .indexAddr t x i) (ht : P.underlying t = some (.slice e)) (hs : (P.info? e).map (·.size) = some m) (hm : m ≠ 0) (b n c k : Nat) (kd : IntKind)
    (hx : a.eval x = .slice (some ⟨b, 0, none⟩) n c) (hi : a.eval i = .int kd (k : Int)) (hk : k < n) (h : wpList P ops Q rest (a.put o.dst (.pointer (some ⟨b, k * m, none⟩))) w) : wpList P ops Q (o :: rest) a w := by
  refine wpl_wanted hw fun K hK => ?_
  have hK := hK _ _ h
  obtain ⟨ie, hie, hse⟩ := Option.map_eq_some_iff.1 hs
  have e2 : (if k * m = 0 then (⟨b, 0, none⟩ : Addr) else ⟨b, k * m, none⟩) = ⟨b, k * m, none⟩ := by
    split
    · rename_i h0; rw [h0]
    · rfl
  unfold Oper.wp execOp
  simp [hop, hx, hi, Instr.indexAt, run_underlying ht w, asIntOf, Sem.run_bind, sizeOf, typeInfo, hie, hse, hk, Oper.upon, Addr.add]
  have e3 : (if k = 0 ∨ m = 0 then (⟨b, 0, none⟩ : Addr) else ⟨b, k * m, none⟩) = ⟨b, k * m, none⟩ := by
    by_cases h0 : k = 0
    · subst h0; simp
    · rw [if_neg (by omega)]
  first | exact hK | (rw [e3]; exact hK) | (rw [e2]; exact hK)
theorem wpl_load_bs (hw : Region.wanted o (yielded ops a.tmps) = true) (ty : TypeId) (x : Operand) (ho : o.op = .load ty x) (m g off : Nat) (hx : a.eval x = .pointer (some ⟨g, off, none⟩)) (f : Nat → Int) (hc : ∀ j, j < m → w.cell? ⟨g, off + j, none⟩ = some (.int .u8 (f j))) (e : Nat)
    (hu : P.underlying ty = some (.array m e)) (hi : (P.info? ty).map (·.size) = some m) (h : wpList P ops Q rest (a.put o.dst (.agg (u8s m f))) w) : wpList P ops Q (o :: rest) a w := by
  refine wpl_wanted hw fun K hK => ?_
  have hr := run_loadVar_mid (P := P) w g off ty ((List.range m).map (fun j => Value.int .u8 (f j))) (.array m e) (fun j v hv => by
    rw [List.getElem?_map] at hv
    obtain ⟨q, hq, rfl⟩ := Option.map_eq_some_iff.1 hv
    have hjn : j < m := by
      have := (List.getElem?_eq_some_iff.1 hq).1
      simpa using this
    rw [List.getElem?_range hjn] at hq
    obtain rfl := Option.some.inj hq
    exact hc j hjn) hu rfl (by simpa using hi)
  unfold Oper.wp execOp
  simp only [ho, hx, Instr.loadAt, Instr.sureAddr, Sem.run_bind, Sem.run_pure, Result.andThen_ok, hr]
  exact hK _ _ h
end
section
variable {P : Program} {ops : Array Oper} {rest : List Oper} {o : Oper} {a : Act} {w : World} {Q : Exit → Act → World → Prop}
theorem wpl_fieldB (hw : Region.wanted o (yielded ops a.tmps) = true) (T : TypeId) (x : Operand) (i : Nat) (hop : o.op = .fieldAddr T x i) (off0 sz : Nat) (hB : fieldB P T i off0 sz = true)
    (g off : Nat) (hx : a.eval x = .pointer (some ⟨g, off, none⟩)) (h : wpList P ops Q rest (a.put o.dst (.pointer (some ⟨g, off + off0, none⟩))) w) : wpList P ops Q (o :: rest) a w := by
  refine wpl_wanted hw fun K hK => ?_
  have hK := hK _ _ h
  unfold fieldB at hB
  split at hB
  · rename_i fs hu
    split at hB
    · rename_i f hf
      simp only [Bool.and_eq_true, beq_iff_eq, decide_eq_true_eq] at hB
      obtain ⟨⟨h1, hs⟩, hsz⟩ := hB
      subst h1
      obtain ⟨ie, hie, hse⟩ := Option.map_eq_some_iff.1 hs
      have hne : ¬ ie.size = 0 := by rw [hse]; exact hsz
      have hadd : (⟨g, off, none⟩ : Addr).add f.offset = ⟨g, off + f.offset, none⟩ := by unfold Addr.add; split <;> simp_all
      unfold Oper.wp execOp
      simp [hop, hx, Instr.fieldAt, run_underlying hu w, hf, Instr.sureAddr, fieldPlace, sizeOf, typeInfo, hie, hne, Sem.run_bind, Oper.upon, hadd]
      exact hK
    · cases hB
  · cases hB
end
theorem dsum_take {p : Int} : ∀ (fs : Fs) (i : Nat), dsum (fs.take i) ≤ dsum fs
  | [], i => by simp
  | x :: l, 0 => Nat.zero_le _
  | x :: l, i + 1 => by
    have := dsum_take (p := p) l i
    show x.2 * (x.1.length - 1) + dsum (l.take i) ≤ x.2 * (x.1.length - 1) + dsum l
    omega
theorem phi_take (P : Nat) {fs : Fs} {i : Nat} {x : List Int × Nat} (h : fs[i]? = some x) : phi P (fs.take (i + 1)) = phi P (fs.take i) * phiT P x := by
  have e : fs.take (i + 1) = fs.take i ++ [x] := by
    rw [List.take_add_one, h]; rfl
  rw [e, phi_snoc]
/-- What the numbers of Euler are bounded by. -/
theorem euler_step {p : Int} {P : Nat} (hP : 2 ≤ P) (hP7 : P ≤ 7) {m : List Int} {fs : Fs} (h : Facd p m fs) (h6 : m.length ≤ 6) {i : Nat} {x : List Int × Nat} (hx : fs[i]? = some x) :
    2 ≤ x.1.length ∧ x.1.length ≤ 6 ∧ 1 ≤ x.2 ∧ x.2 ≤ 5 ∧ 1 ≤ phi P (fs.take i) ∧ 2 ≤ P ^ (x.1.length - 1) ∧ P ^ (x.1.length - 1) ≤ 16807 ∧ 1 ≤ (P ^ (x.1.length - 1)) ^ (x.2 - 1) ∧ (P ^ (x.1.length - 1)) ^ (x.2 - 1) ≤ 16807 ∧ phi P (fs.take i) * (P ^ (x.1.length - 1) - 1) ≤ 16807 ∧ phi P (fs.take i) * (P ^ (x.1.length - 1) - 1) * (P ^ (x.1.length - 1)) ^ (x.2 - 1) = phi P (fs.take (i + 1)) ∧ phi P (fs.take (i + 1)) ≤ 16807 := by
  have hm := List.mem_of_getElem? hx
  obtain ⟨hi, he⟩ := h.irr x hm
  have hd := hi.deg
  have hds := h.deg
  have h5 : (7 : Nat) ^ 5 = 16807 := by decide
  have hpow : ∀ n, n ≤ 5 → P ^ n ≤ 16807 := fun n hn => by
    have h1 := Nat.pow_le_pow_left hP7 n
    have h2 : (7 : Nat) ^ n ≤ 7 ^ 5 := Nat.pow_le_pow_right (by omega) hn
    omega
  have hxl := dsum_mem (p := p) hm he
  have hprod : x.2 * (x.1.length - 1) ≤ dsum fs := by
    have key : ∀ {l : Fs}, x ∈ l → x.2 * (x.1.length - 1) ≤ dsum l := by
      intro l
      induction l with
      | nil => intro h; simp at h
      | cons y l ih =>
        intro h
        show _ ≤ y.2 * (y.1.length - 1) + dsum l
        rcases List.mem_cons.1 h with rfl | h
        · omega
        · have := ih h; omega
    exact key hm
  have hx2 : x.2 ≤ 5 := by
    have := Nat.mul_le_mul_left x.2 (show 1 ≤ x.1.length - 1 by omega)
    omega
  have ht1 := phi_bound (p := p) hP (fs.take i) fun y hy => h.irr y (List.mem_of_mem_take hy)
  have ht2 := phi_bound (p := p) hP (fs.take (i + 1)) fun y hy => h.irr y (List.mem_of_mem_take hy)
  have hdt := dsum_take (p := p) fs (i + 1)
  have hb2 : phi P (fs.take (i + 1)) ≤ 16807 := Nat.le_trans ht2.2 (hpow _ (by omega))
  have hN2 : 2 ≤ P ^ (x.1.length - 1) := by
    have := Nat.pow_le_pow_right (n := P) (by omega) (show 1 ≤ x.1.length - 1 by omega)
    rw [Nat.pow_one] at this; omega
  have hE1 : 1 ≤ (P ^ (x.1.length - 1)) ^ (x.2 - 1) := Nat.pow_pos (by omega)
  have hE2 : (P ^ (x.1.length - 1)) ^ (x.2 - 1) ≤ 16807 := by
    rw [← Nat.pow_mul]
    refine hpow _ ?_
    have : (x.1.length - 1) * (x.2 - 1) ≤ (x.1.length - 1) * x.2 := Nat.mul_le_mul_left _ (by omega)
    rw [Nat.mul_comm x.2] at hprod
    omega
  have heq : phi P (fs.take i) * (P ^ (x.1.length - 1) - 1) * (P ^ (x.1.length - 1)) ^ (x.2 - 1) = phi P (fs.take (i + 1)) := by
    rw [phi_take P hx, Nat.mul_assoc]; rfl
  refine ⟨hd, by omega, he, hx2, ht1.1, hN2, hpow _ (by omega), hE1, hE2, ?_, heq, hb2⟩
  have := Nat.le_mul_of_pos_right (phi P (fs.take i) * (P ^ (x.1.length - 1) - 1)) hE1
  omega
set_option maxRecDepth 20000 in
set_option maxHeartbeats 2000000 in
theorem l02Euler_any (p : Int) (P : Nat) (m : List Int) (w : World) (hx : P64 p m) (hP : p = P) (mm : Mc m) (h6 : m.length ≤ 6) :
    Calls Try.prog 21 #[.int .i64 p, .agg (u8s 64 (cf m))] w fun e w' => ∃ fs, e = .returned (.int .i64 ((phi P fs : Nat) : Int)) ∧ Facd p m fs ∧ phi P fs ≤ 16807 ∧ Below w.heap.size w w' := by
  have hsp := Lib.hid (fun w => l02Split_any p P m w hx hP mm h6)
  have hpr := Lib.hid hx.pr
  have hp2 := hx.pr.pos
  subst hP
  have h6H := Lib.hid h6
  obtain ⟨hb, hA⟩ := boxes1 w (u8s 64 (cf m)) 25
  clear hx mm h6
  go_enter Try.func21, Try.ntmps21
  go_wp2_with ((with_reducible refine wpl_guard ?_); first | (refine wpl_load_arr rfl 25 _ rfl _ rfl _ _ hA _ _ uPoly sPoly ?_))
  refine (hsp.out _).mono ?_
  rintro e w1 ⟨v, fs, rfl, hF', hfd', hn⟩
  replace hb := Lib.hid (below_step hb hn)
  have hF := Lib.hid hF'
  have hfd := Lib.hid hfd'
  obtain ⟨oa, ca, rfl⟩ := hF'.sl
  have hfl : fs.length ≤ 6 := by
    have h1 := dsum_len fs hfd'.irr
    have h2 := hfd'.deg
    have h3 := h6H.out
    omega
  clear hsp hn hA hF' hfd'
  go_wp2_with fail
  go_loopw [6, 7, 8] (fun ov iv _ wr => ∃ (i y : Nat), i ≤ fs.length ∧ iv = .int .i64 (i : Int) ∧ ov = .int .i64 (y : Int) ∧ Hid (y = phi P (fs.take i)) ∧ Hid (FcL 58 wr (w.heap.size + 1) (.slice oa fs.length ca) fs) ∧ Hid (Below w.heap.size w wr)) (fun _ iv _ _ => fs.length - (intOf iv).toNat)
  case atStart => exact ⟨0, 1, by omega, rfl, rfl, Lib.hid rfl, by first | exact hF | exact Lib.hid (hF.out.mono (by simp)), hb⟩
  case round =>
    clear hF hb
    rename World => w2
    obtain ⟨i, y, hi', rfl, rfl, hy, hF, hb⟩ := hrel
    by_cases hi : i < fs.length
    · have hiI : (i : Int) < (fs.length : Int) := by omega
      obtain ⟨x, hx⟩ : ∃ x, fs[i]? = some x := ⟨fs[i], List.getElem?_eq_getElem hi⟩
      obtain ⟨gL, rfl, hgL⟩ := hF.out.slc (by omega)
      obtain ⟨k1, k2, k3, k4, k5, k6, k7, k8, k9, k10, k11, k12⟩ := euler_step (P := P) (by omega) (by omega) hfd.out h6H.out hx
      have hxm := (hfd.out.irr x (List.mem_of_getElem? hx)).1.po
      have hcl := Lib.hid (hF.out.cell hx)
      have hxH := Lib.hid hx
      obtain ⟨xp, xe⟩ := x
      replace hcl : Hid ((∀ j, j < 64 → w2.cell? ⟨gL, i * 65 + 0 + j, none⟩ = some (.int .u8 (cf xp j))) ∧ w2.cell? ⟨gL, i * 65 + 64, none⟩ = some (.int .i64 (xe : Int))) := hcl
      simp only at k1 k2 k3 k4 k5 k6 k7 k8 k9 k10 k11 k12 hxm
      obtain ⟨d, hd⟩ : ∃ d, xp.length - 1 = d := ⟨_, rfl⟩
      obtain ⟨E, rfl⟩ : ∃ E, xe = E + 1 := ⟨xe - 1, by omega⟩
      have hdg := fun w => l01Deg_list (P : Int) xp w ⟨hpr.out, hxm, by omega⟩
      rw [show ((xp.length : Nat) : Int) - 1 = (d : Int) by omega] at hdg
      rw [hd] at k6 k7 k8 k9 k10 k11
      rw [show E + 1 - 1 = E by omega] at k8 k9 k11
      rw [← hy.out] at k5 k10 k11
      obtain ⟨N, hN⟩ : ∃ N, P ^ d = N := ⟨_, rfl⟩
      rw [hN] at k6 k7 k8 k9 k10 k11
      have hNI : ((P : Int)) ^ d = (N : Int) := by rw [← hN]; exact (Int.natCast_pow P d).symm
      have hp1 := fun w => l02Power_any (P : Int) d w hp2.1 (by rw [hNI]; omega) (by omega)
      rw [hNI] at hp1
      obtain ⟨R, hR⟩ : ∃ R, N ^ E = R := ⟨_, rfl⟩
      rw [hR] at k8 k9 k11
      have hRI : ((N : Int)) ^ E = (R : Int) := by rw [← hR]; exact (Int.natCast_pow N E).symm
      have hp3 := fun w => l02Power_any (N : Int) E w (by omega) (by rw [hRI]; omega) (by omega)
      rw [hRI] at hp3
      have hc1 : (y : Int) * ((N : Int) - 1) = ((y * (N - 1) : Nat) : Int) := by rw [Int.natCast_mul, show ((N - 1 : Nat) : Int) = (N : Int) - 1 by omega]
      have hc2 : (y : Int) * ((N : Int) - 1) * (R : Int) = ((phi P (fs.take (i + 1)) : Nat) : Int) := by rw [hc1, ← k11]; exact (Int.natCast_mul _ _).symm
      have hm0 : 0 ≤ (y : Int) * ((N : Int) - 1) := by rw [hc1]; exact Int.natCast_nonneg _
      have hm1 : (y : Int) * ((N : Int) - 1) ≤ 16807 := by rw [hc1]; exact Int.ofNat_le.2 k10
      have hm2 : 0 ≤ (y : Int) * ((N : Int) - 1) * (R : Int) := by rw [hc2]; exact Int.natCast_nonneg _
      have hm3 : (y : Int) * ((N : Int) - 1) * (R : Int) ≤ 16807 := by rw [hc2]; exact Int.ofNat_le.2 k12
      have hiH := Lib.hid hi
      have hE4 : E ≤ 4 := by omega
      have hE4I : (E : Int) ≤ 4 := by omega
      have hdgH := Lib.hid hdg
      have hp1H := Lib.hid hp1
      have hp3H := Lib.hid hp3
      have hc2H := Lib.hid hc2
      clear hdg hp1 hp3 hc1 hc2 hx hxm k1 k2 k3 k4 k5 k8 k10 k11 k12 hd hN hNI hR hRI
      go_wp2_with ((with_reducible refine wpl_guard ?_); first | (refine wpl_index_bs rfl 54 58 65 _ _ rfl uFsF sFsF (by decide) gL fs.length ca i .i64 rfl rfl hi ?_) | (refine wpl_fieldB rfl 58 _ 0 rfl 0 64 fField0 gL (i * 65) rfl ?_) | (refine wpl_load_bs rfl 25 _ rfl 64 gL (i * 65 + 0) rfl (cf xp) hcl.out.1 5 uPoly sPoly ?_))
      refine (hdgH.out _).mono ?_
      rintro e w3 ⟨rfl, hn⟩
      replace hF := Lib.hid (hF.out.below hn)
      replace hb := Lib.hid (below_step hb.out hn)
      clear hn
      have hcl2 : w3.cell? ⟨gL, i * 65 + 64, none⟩ = some (.int .i64 ((E : Int) + 1)) := (hF.out.cell hxH.out).2
      clear hcl
      go_wp2_with fail
      refine (hp1H.out _).mono ?_
      rintro e w4 ⟨rfl, rfl⟩
      go_wp2_with ((with_reducible refine wpl_guard ?_); first | (refine wpl_index_bs rfl 54 58 65 _ _ rfl uFsF sFsF (by decide) gL fs.length ca i .i64 rfl rfl hi ?_) | (refine wpl_fieldB rfl 58 _ 1 rfl 64 1 fField1 gL (i * 65) rfl ?_))
      refine (hp3H.out _).mono ?_
      rintro e w5 ⟨rfl, rfl⟩
      go_wp2_with fail
      go_roundw
      case rel => exact ⟨i + 1, phi P (fs.take (i + 1)), hiH.out, by go_num, by rw [hc2H.out], Lib.hid rfl, hF, hb⟩
      case measure => have := hiH.out; simp [intOf] <;> omega
    · obtain rfl : i = fs.length := by omega
      have hyy := hy.out
      rw [List.take_length] at hyy
      have hbd : phi P fs ≤ 16807 := by
        have h1 := (phi_bound (p := (P : Int)) (P := P) (by omega) fs hfd.out.irr).2
        have h2 := hfd.out.deg
        have h3 := h6H.out
        have h4 := Nat.pow_le_pow_left (show P ≤ 7 by omega) (dsum fs)
        have h5 : (7 : Nat) ^ dsum fs ≤ 7 ^ 5 := Nat.pow_le_pow_right (by omega) (by omega)
        have h6 : (7 : Nat) ^ 5 = 16807 := by decide
        omega
      have hyH := Lib.hid hyy
      have hbH := Lib.hid hbd
      clear hyy hbd
      go_wp2_with fail
      go_ret
      exact ⟨fs, by rw [hyH.out]; rfl, hfd.out, hbH.out, hb.out⟩
end Go.Proofs.Ytojkngdabejjdaa
