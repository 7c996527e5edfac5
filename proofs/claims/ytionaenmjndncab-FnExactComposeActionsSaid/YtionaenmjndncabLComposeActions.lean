/- The law FnExactComposeActions, walked. -/
import Derived.Test.YtionaenmjndncabH6
import Derived.Test.YtionaenmjndncabH7
import Derived.Test.YtionaenmjndncabH4
set_option linter.unusedVariables false
set_option linter.unusedSimpArgs false
namespace Go.Proofs.Ytionaenmjndncab
open Go.RowKit
def lsPostComposeActions (n : Nat) (M : Nat → List Int) (c : Int) (w : World) (e : Ending) (w' : World) : Prop := ∃ v, e = .returned (.tuple #[v, .int .i64 c]) ∧ PlS w' w.heap.size v n M ∧ Below w.heap.size w w'
theorem ComposeActions_pair (p : Int) (na nb : Nat) (F G : Nat → Int) (hF : By F) (hG : By G) (hna : na ≤ 1048576) (hnb : nb ≤ 1048576) : ∃ (n : Nat) (M : Nat → List Int) (c : Int), n ≤ 1000 ∧
    (∀ ga gb ca cb BA BB w, Fl w BA (.slice (some ⟨ga, 0, none⟩) na ca) na F → Fl w BB (.slice (some ⟨gb, 0, none⟩) nb cb) nb G → Calls Try.prog 24 #[.int .i64 p, .slice (some ⟨ga, 0, none⟩) na ca, .slice (some ⟨gb, 0, none⟩) nb cb] w (lsPostComposeActions n M c w)) ∧
    (∀ ga gb ca cb BA BB w, Fl w BA (.slice (some ⟨ga, 0, none⟩) na ca) na F → Fl w BB (.slice (some ⟨gb, 0, none⟩) nb cb) nb G → Calls Try.prog 25 #[.int .i64 p, .slice (some ⟨ga, 0, none⟩) na ca, .slice (some ⟨gb, 0, none⟩) nb cb] w (lsPostComposeActions n M c w)) := by
  obtain ⟨b, hb⟩ := dec_true (GoodL p na nb F G)
  obtain ⟨t, ht⟩ := dec_true (CFit p.toNat (rowL na F) (rowL nb G) na nb)
  have hP : Pr p → p = (p.toNat : Int) := fun h => by have := h.pos; omega
  have hle : ∀ c, decide (na ≤ 7 ∧ nb ≤ 7) = c → cmN p p.toNat na nb F G b c t ≤ 1000 := fun c hc => by
    unfold cmN
    split
    · rename_i h
      have hcT : c = true := by cases b <;> cases c <;> simp_all
      have h7 := of_decide_eq_true (hc.trans hcT)
      have := tlen_le (cpO p p.toNat (rowL na F) (rowL nb G) nb na) (na + nb)
      omega
    · omega
  exact ⟨_, _, _, hle _ rfl, fun ga gb ca cb BA BB w ha hb' => specComposeActions_any ga gb na nb ca cb BA BB F G p p.toNat w hF hG ha hb' (by omega) (by omega) hP b _ t hb rfl ht, fun ga gb ca cb BA BB w ha hb' => implComposeActions_any ga gb na nb ca cb BA BB F G p p.toNat w hF hG ha hb' (by omega) (by omega) hP b _ t hb rfl ht⟩
set_option maxRecDepth 20000 in
set_option maxHeartbeats 4000000 in
theorem lawComposeActions_any (p : Int) (oa ob : Option Addr) (na nb ca cb : Nat) (F G : Nat → Int) (w : World) (_ : (Lit.int .i64 p).wf = true) (hna0 : na ≤ maxLen) (hnb0 : nb ≤ maxLen) (hCA : CellsAt w oa (na * 64) (fun j => .int .u8 (F j))) (hCB : CellsAt w ob (nb * 64) (fun j => .int .u8 (G j))) (hF : By F) (hG : By G) :
    Calls Try.prog 7 #[.int .i64 p, .slice oa na ca, .slice ob nb cb] w fun e w' => e = .returned (.bool true) ∧ Below w.heap.size w w' := by
  unfold maxLen at hna0 hnb0
  have hs1 := fun w => szPolyS_any oa na ca 1048576 w (by decide) (by omega)
  by_cases hna : na ≤ 1048576
  case neg =>
    rw [show (1048576 : Nat) = 1048576 from rfl, if_neg hna] at hs1
    have H1 := Lib.hid hs1
    clear hs1 hCA hCB
    go_enter Try.func7, Try.ntmps7
    go_wp2_with fail
    refine (H1.out _).mono ?_
    rintro e x1 ⟨rfl, rfl⟩
    go_wp2_with fail
    go_ret
    exact ⟨rfl, Below.refl _ _⟩
  case pos =>
  rw [if_pos hna] at hs1
  obtain ⟨q, hq⟩ : ∃ q, 1048576 - na = q := ⟨_, rfl⟩
  rw [hq] at hs1
  have hq2 : q ≤ 1048576 := by omega
  have hs2 := fun w => szPolyS_any ob nb cb q w (by omega) (by omega)
  have hs2q : ¬ ((q : Int) < 0) := by omega
  by_cases hnb : nb ≤ q
  case neg =>
    rw [if_neg hnb] at hs2
    have H1 := Lib.hid hs1
    have H2 := Lib.hid hs2
    clear hs1 hs2 hCA hCB
    go_enter Try.func7, Try.ntmps7
    go_wp2_with fail
    refine (H1.out _).mono ?_
    rintro e x1 ⟨rfl, rfl⟩
    go_wp2_with fail
    refine (H2.out _).mono ?_
    rintro e x2 ⟨rfl, rfl⟩
    go_wp2_with fail
    go_ret
    exact ⟨rfl, Below.refl _ _⟩
  case pos =>
  rw [if_pos hnb] at hs2
  obtain ⟨q2, hq2'⟩ : ∃ q2, q - nb = q2 := ⟨_, rfl⟩
  rw [hq2'] at hs2
  have hs3q : ¬ ((q2 : Int) < 0) := by omega
  have hq3 : q2 ≤ 1048576 := by omega
  have hnb1 : nb ≤ 1048576 := by omega
  have H1 := Lib.hid hs1
  have H2 := Lib.hid hs2
  have hA := Lib.hid hCA
  have hB := Lib.hid hCB
  obtain ⟨n, M, c, hl, hS, hI⟩ := ComposeActions_pair p na nb F G hF hG hna hnb1
  unfold lsPostComposeActions at hS hI
  have HS := Lib.hid hS
  have HI := Lib.hid hI
  have TA := Lib.hid (fun w (h : CellsAt w oa (na * 64) (fun j => .int .u8 (F j))) => toPolyS_any oa na ca F w h (by omega))
  have TB := Lib.hid (fun w (h : CellsAt w ob (nb * 64) (fun j => .int .u8 (G j))) => toPolyS_any ob nb cb G w h (by omega))
  clear hs1 hs2 hCA hCB hS hI hq hq2' hF hG hna0 hnb0 hnb
  have hcc : (c == c) = true := beq_self_eq_true _
  have hmm : ((1 + (n : Int) * 64) == (1 + (n : Int) * 64)) = true := beq_self_eq_true _
  have hkk : ¬ ((1 : Int) + (na : Int) * 64 + (nb : Int) * 64 < 0) := by omega
  have hb := Below.refl w.heap.size w
  go_enter Try.func7, Try.ntmps7
  go_wp2_with fail
  refine (H1.out _).mono ?_
  rintro e x1 ⟨rfl, rfl⟩
  go_wp2_with fail
  refine (H2.out _).mono ?_
  rintro e x2 ⟨rfl, rfl⟩
  go_wp2_with fail
  refine (TA.out _ (hA.out.below hb)).mono ?_
  rintro e y3 ⟨gsa, rfl, k1, hn⟩
  have losa := k1.lt gsa rfl
  have wlosa := hb.size
  have sa := Lib.hid k1
  clear k1
  replace hb := below_step hb hn
  clear hn
  go_wp2_with fail
  refine (TB.out _ (hB.out.below hb)).mono ?_
  rintro e y4 ⟨gsb, rfl, k1, hn⟩
  have losb := k1.lt gsb rfl
  have wlosb := hb.size
  have sb := Lib.hid k1
  clear k1
  replace sa := Lib.hid (sa.out.below hn)
  replace hb := below_step hb hn
  clear hn
  go_wp2_with fail
  refine (HS.out _ _ _ _ _ _ _ sa.out sb.out).mono ?_
  rintro e y5 ⟨v0, rfl, k1, hn⟩
  have los0 := k1.lt
  have s0 := Lib.hid k1
  clear k1
  replace sa := Lib.hid (sa.out.below hn)
  replace sb := Lib.hid (sb.out.below hn)
  replace hb := below_step hb hn
  clear hn
  clear sa sb
  go_wp2_with fail
  refine (TA.out _ (hA.out.below hb)).mono ?_
  rintro e y6 ⟨gxa, rfl, k1, hn⟩
  have loxa := k1.lt gxa rfl
  have wloxa := hb.size
  have xa := Lib.hid k1
  clear k1
  replace s0 := Lib.hid (s0.out.below hn)
  replace hb := below_step hb hn
  clear hn
  go_wp2_with fail
  refine (TB.out _ (hB.out.below hb)).mono ?_
  rintro e y7 ⟨gxb, rfl, k1, hn⟩
  have loxb := k1.lt gxb rfl
  have wloxb := hb.size
  have xb := Lib.hid k1
  clear k1
  replace s0 := Lib.hid (s0.out.below hn)
  replace xa := Lib.hid (xa.out.below hn)
  replace hb := below_step hb hn
  clear hn
  go_wp2_with fail
  refine (HI.out _ _ _ _ _ _ _ xa.out xb.out).mono ?_
  rintro e y8 ⟨v1, rfl, k1, hn⟩
  have los1 := k1.lt
  have s1 := Lib.hid k1
  clear k1
  replace s0 := Lib.hid (s0.out.below hn)
  replace xa := Lib.hid (xa.out.below hn)
  replace xb := Lib.hid (xb.out.below hn)
  replace hb := below_step hb hn
  clear hn
  go_wp2_with fail
  refine (eqPolyS_same _ _ n _ _ M _ s1.out s0.out (by omega)).mono ?_
  rintro e y9 ⟨rfl, hn⟩
  replace s0 := Lib.hid (s0.out.below hn)
  replace xa := Lib.hid (xa.out.below hn)
  replace xb := Lib.hid (xb.out.below hn)
  replace s1 := Lib.hid (s1.out.below hn)
  replace hb := below_step hb hn
  clear hn
  go_wp2_with fail
  refine (TA.out _ (hA.out.below hb)).mono ?_
  rintro e y10 ⟨gta, rfl, k1, hn⟩
  have lota := k1.lt gta rfl
  have wlota := hb.size
  have ta := Lib.hid k1
  clear k1
  replace s0 := Lib.hid (s0.out.below hn)
  replace xa := Lib.hid (xa.out.below hn)
  replace xb := Lib.hid (xb.out.below hn)
  replace s1 := Lib.hid (s1.out.below hn)
  replace hb := below_step hb hn
  clear hn
  go_wp2_with fail
  refine (eqPolyS_same _ _ na _ _ _ _ xa.out.pl ta.out.pl (by omega)).mono ?_
  rintro e y11 ⟨rfl, hn⟩
  replace s0 := Lib.hid (s0.out.below hn)
  replace xa := Lib.hid (xa.out.below hn)
  replace xb := Lib.hid (xb.out.below hn)
  replace s1 := Lib.hid (s1.out.below hn)
  replace ta := Lib.hid (ta.out.below hn)
  replace hb := below_step hb hn
  clear hn
  clear ta
  go_wp2_with fail
  refine (TB.out _ (hB.out.below hb)).mono ?_
  rintro e y12 ⟨gtb, rfl, k1, hn⟩
  have lotb := k1.lt gtb rfl
  have wlotb := hb.size
  have tb := Lib.hid k1
  clear k1
  replace s0 := Lib.hid (s0.out.below hn)
  replace xa := Lib.hid (xa.out.below hn)
  replace xb := Lib.hid (xb.out.below hn)
  replace s1 := Lib.hid (s1.out.below hn)
  replace hb := below_step hb hn
  clear hn
  go_wp2_with fail
  refine (eqPolyS_same _ _ nb _ _ _ _ xb.out.pl tb.out.pl (by omega)).mono ?_
  rintro e y13 ⟨rfl, hn⟩
  replace s0 := Lib.hid (s0.out.below hn)
  replace xa := Lib.hid (xa.out.below hn)
  replace xb := Lib.hid (xb.out.below hn)
  replace s1 := Lib.hid (s1.out.below hn)
  replace tb := Lib.hid (tb.out.below hn)
  replace hb := below_step hb hn
  clear hn
  clear tb
  have ne0a : v0.ownBlock ≠ some gxa := fun e => by have h1 := (los0 _ e).2; have h2 := loxa.1; omega
  have ne1a : v1.ownBlock ≠ some gxa := fun e => by have h1 := (los1 _ e).1; have h2 := loxa.2; have h3 := loxb.1; omega
  have ne0b : v0.ownBlock ≠ some gxb := fun e => by have h1 := (los0 _ e).2; have h2 := loxb.1; have h3 := loxa.1; have h4 := loxa.2; omega
  have ne1b : v1.ownBlock ≠ some gxb := fun e => by have h1 := (los1 _ e).1; have h2 := loxb.2; omega
  have neab : gxa ≠ gxb := fun e => by have h1 := loxa.2; have h2 := loxb.1; omega
  have wxa : w.heap.size ≤ gxa := by omega
  have wxb : w.heap.size ≤ gxb := by omega
  have w1g : ∀ k, v1.ownBlock = some k → w.heap.size ≤ k := fun k e => by have h1 := (los1 _ e).1; have h2 := loxb.2; omega
  have ne01 : v0.ownBlock = none ∨ v0.ownBlock ≠ v1.ownBlock := by
    rcases h : v0.ownBlock with _ | k
    · exact .inl rfl
    · exact .inr fun e => by have h1 := (los0 _ h).2; have h2 := (los1 _ e.symm).1; omega
  clear losa losb loxa loxb los0 los1 lota lotb wlosa wlosb wloxa wloxb wlota wlotb
  go_wp2_with fail
  refine (markPolyS_grown _ na _ (1) _ _ xa.out (by omega) (by omega)).mono ?_
  rintro e y14 ⟨rfl, k1, hn⟩
  replace s0 := Lib.hid (s0.out.kept hn (.inr ne0a))
  replace s1 := Lib.hid (s1.out.kept hn (.inr ne1a))
  replace xb := Lib.hid (xb.out.kept hn (.inr fun e => neab (Option.some.inj e).symm))
  replace xa := Lib.hid k1
  replace hb := hb.trans (grown_belowP hn (fun k hk => by obtain rfl := Option.some.inj hk; exact wxa) hb.size)
  clear hn k1
  have e1k : (1 : Int) + (na : Int) * 64 = ((1 + na * 64 : Nat) : Int) := by omega
  rw [show ((1 : Nat) : Int) + (na : Int) * 64 = ((1 + na * 64 : Nat) : Int) from e1k]
  clear e1k
  go_wp2_with fail
  refine (markPolyS_grown _ nb _ (1 + na * 64) _ _ xb.out (by omega) (by omega)).mono ?_
  rintro e y15 ⟨rfl, k1, hn⟩
  replace s0 := Lib.hid (s0.out.kept hn (.inr ne0b))
  replace s1 := Lib.hid (s1.out.kept hn (.inr ne1b))
  replace xb := Lib.hid k1
  replace hb := hb.trans (grown_belowP hn (fun k hk => by obtain rfl := Option.some.inj hk; exact wxb) hb.size)
  clear hn k1
  clear ne0a ne1a ne0b ne1b neab wxa wxb xa xb
  have hkk2 : ¬ ((((1 + na * 64 : Nat) : Int)) + (nb : Int) * 64 < 0) := by omega
  clear hkk
  go_wp2_with fail
  refine (eqPolyS_same _ _ n _ _ M _ s1.out s0.out (by omega)).mono ?_
  rintro e y16 ⟨rfl, hn⟩
  replace s0 := Lib.hid (s0.out.below hn)
  replace s1 := Lib.hid (s1.out.below hn)
  replace hb := below_step hb hn
  clear hn
  go_wp2_with fail
  refine (markPolyS_grown _ n _ 1 _ _ s1.out.fl (by omega) (by omega)).mono ?_
  rintro e y17 ⟨rfl, k1, hn⟩
  replace s0 := Lib.hid (s0.out.kept hn ne01)
  have m1 := Lib.hid k1
  replace hb := hb.trans (grown_belowP hn w1g hb.size)
  clear hn k1 s1 ne01 w1g
  go_wp2_with fail
  refine (heldPolyS_any _ n _ 1 _ m1.out (by omega) (by omega)).mono ?_
  rintro e z1 ⟨rfl, rfl⟩
  go_wp2_with fail
  refine (TA.out _ (hA.out.below hb)).mono ?_
  rintro e y18 ⟨gra, rfl, k1, hn⟩
  have lora := k1.lt gra rfl
  have wlora := hb.size
  have ra := Lib.hid k1
  clear k1
  replace s0 := Lib.hid (s0.out.below hn)
  replace m1 := Lib.hid (m1.out.below hn)
  replace hb := below_step hb hn
  clear hn
  go_wp2_with fail
  refine (TB.out _ (hB.out.below hb)).mono ?_
  rintro e y19 ⟨grb, rfl, k1, hn⟩
  have lorb := k1.lt grb rfl
  have wlorb := hb.size
  have rb := Lib.hid k1
  clear k1
  replace s0 := Lib.hid (s0.out.below hn)
  replace m1 := Lib.hid (m1.out.below hn)
  replace ra := Lib.hid (ra.out.below hn)
  replace hb := below_step hb hn
  clear hn
  go_wp2_with fail
  refine (HI.out _ _ _ _ _ _ _ ra.out rb.out).mono ?_
  rintro e y20 ⟨v2, rfl, k1, hn⟩
  have los2 := k1.lt
  have s2 := Lib.hid k1
  clear k1
  replace s0 := Lib.hid (s0.out.below hn)
  replace m1 := Lib.hid (m1.out.below hn)
  replace ra := Lib.hid (ra.out.below hn)
  replace rb := Lib.hid (rb.out.below hn)
  replace hb := below_step hb hn
  clear hn
  clear ra rb
  go_wp2_with fail
  refine (eqPolyS_same _ _ n _ _ M _ s2.out s0.out (by omega)).mono ?_
  rintro e y21 ⟨rfl, hn⟩
  replace s0 := Lib.hid (s0.out.below hn)
  replace m1 := Lib.hid (m1.out.below hn)
  replace s2 := Lib.hid (s2.out.below hn)
  replace hb := below_step hb hn
  clear hn
  go_wp2_with fail
  refine (heldPolyS_any _ n _ 1 _ m1.out (by omega) (by omega)).mono ?_
  rintro e z2 ⟨rfl, rfl⟩
  go_wp2_with fail
  go_ret
  exact ⟨rfl, hb⟩
end Go.Proofs.Ytionaenmjndncab
